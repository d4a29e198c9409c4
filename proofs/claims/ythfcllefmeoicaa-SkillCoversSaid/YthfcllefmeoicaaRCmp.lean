/- Contracts of the reference's comparisons of integers and ratios, at 0. -/
import Derived.Test.YthfcllefmeoicaaRRat
import Derived.Deep.DeepCutAuto
namespace Go.Proofs.Ythfcllefmeoicaa
open Go.RowKit
attribute [local go_sem ↓] Go.wp_at_zero Go.wp_at_succ

set_option maxHeartbeats 8000000 in
theorem c_rIntCmp0 (v u : Value) (w : World) (h : RdN w v []) (g : RdN w u []) :
    Calls Try.prog 85 #[.agg #[.bool false, v], .agg #[.bool false, u]] w fun e w' => e = .returned (.int .i64 0) ∧ Ext w w' := by
  obtain ⟨A0, cap0, rfl⟩ := h.slice
  obtain ⟨A1, cap1, rfl⟩ := g.slice
  have hh := Lib.hid h
  have gg := Lib.hid g
  clear h g
  go_enter Try.func85, Try.ntmps85
  go_wp2_with fail
  have b0 := (Blk.new w 45 #[.bool false, .slice A0 0 cap0]).alloc (.cells #[.bool false, .slice A1 0 cap1] 45)
  have b1 := Blk.new (w.alloc (.cells #[.bool false, .slice A0 0 cap0] 45)) 45 #[.bool false, .slice A1 0 cap1]
  have hX := ((Ext.refl w).alloc (.cells #[.bool false, .slice A0 0 cap0] 45)).alloc (.cells #[.bool false, .slice A1 0 cap1] 45)
  simp only [World.size_alloc] at b1
  generalize (w.alloc (.cells #[.bool false, .slice A0 0 cap0] 45)).alloc (.cells #[.bool false, .slice A1 0 cap1] 45) = W at b0 b1 hX ⊢
  obtain ⟨p0, p1, _⟩ := b0.parts2
  obtain ⟨p2, p3, _⟩ := b1.parts2
  have hN : w.heap.size + 2 ≤ W.heap.size := by have := b1.lt; omega
  have l0 : w.heap.size < W.heap.size := by omega
  have l1 : w.heap.size + 1 < W.heap.size := by omega
  have tok1 : True := trivial
  go_cut [5, 6] (fun s5 s6 wc => ∃ g5 g6 A c B d, s5 = .pointer (some ⟨g5, 0, none⟩) ∧ s6 = .pointer (some ⟨g6, 0, none⟩) ∧ wc.cell? ⟨g5, 0, none⟩ = some (.bool false) ∧ wc.cell? ⟨g5, 1, none⟩ = some (.slice A 0 c) ∧ wc.cell? ⟨g6, 0, none⟩ = some (.bool false) ∧ wc.cell? ⟨g6, 1, none⟩ = some (.slice B 0 d) ∧ RdN wc (.slice A 0 c) [] ∧ RdN wc (.slice B 0 d) [] ∧ Kp W.heap.size W wc)
  case first =>
    go_region_held3 (fun w' => (∀ b o, b < W.heap.size → w'.cell? ⟨b, o, none⟩ = W.cell? ⟨b, o, none⟩) ∧ Kp W.heap.size W w')
      (((refine Kp.both ?_); repeat (first | exact (Kp.start (Nat.le_refl _)) | (refine Kp.drew ?_) | (refine Kp.alloc ?_ _) | (refine Kp.set ?_ (by first | (simp; done) | omega | (simp; omega)) _) | (refine Kp.call ?_ (by assumption)))))
      (first
        | (go_at_call 99; have _t := tok1; refine (c_rIntNorm0 _ [] _ hh.out.empty (by simp) rfl).mono ?_; rintro e w1 ⟨_, rfl, ⟨u2, rfl, h1⟩, he1⟩; obtain ⟨A2, cap2, rfl⟩ := h1.slice; have hs1 := he1.size; (try simp at hs1); (try (have hb1 := (Blk.new _ _ _).ext he1; (try simp only [World.size_alloc, World.size_drew] at hb1); obtain ⟨z1, z2, z3, z4, z5⟩ := hb1.parts2; have nz5a := Nat.ne_of_lt z5; have nz5b := Nat.ne_of_gt z5)); (try (have hb1 := ((Blk.new _ _ _).drew).ext he1; (try simp only [World.size_alloc] at hb1); obtain ⟨z6, z7, z8, z9, z10⟩ := hb1.parts2; have nz10a := Nat.ne_of_lt z10; have nz10b := Nat.ne_of_gt z10)); (try (have hb2 := ((Blk.new _ _ _).alloc _).ext he1; (try simp only [World.size_alloc, World.size_drew] at hb2); obtain ⟨z11, z12, z13, z14, z15⟩ := hb2.parts2; have nz15a := Nat.ne_of_lt z15; have nz15b := Nat.ne_of_gt z15)); (try (have hb2 := (((Blk.new _ _ _).alloc _).drew).ext he1; (try simp only [World.size_alloc, World.size_drew] at hb2); obtain ⟨z16, z17, z18, z19, z20⟩ := hb2.parts2; have nz20a := Nat.ne_of_lt z20; have nz20b := Nat.ne_of_gt z20)); clear tok1)
        | (go_at_call 99; refine (c_rIntNorm0 _ [] _ gg.out.empty (by simp) rfl).mono ?_; rintro e w2 ⟨_, rfl, ⟨u3, rfl, h2⟩, he2⟩; obtain ⟨A3, cap3, rfl⟩ := h2.slice; have hs2 := he2.size; (try simp at hs2); (try (have hb3 := (Blk.new _ _ _).ext he2; (try simp only [World.size_alloc] at hb3); obtain ⟨y1, y2, y3, y4, y5⟩ := hb3.parts2; have ny5a := Nat.ne_of_lt y5; have ny5b := Nat.ne_of_gt y5)); (try (have hb4 := ((Blk.new _ _ _).alloc _).ext he2; (try simp only [World.size_alloc, World.size_drew] at hb4); obtain ⟨y6, y7, y8, y9, y10⟩ := hb4.parts2; have ny10a := Nat.ne_of_lt y10; have ny10b := Nat.ne_of_gt y10)); (try (have hb5 := (hb1).ext he2; (try simp only [World.size_alloc, World.size_drew] at hb5); obtain ⟨y11, y12, y13, y14, y15⟩ := hb5.parts2; have ny15a := Nat.ne_of_lt y15; have ny15b := Nat.ne_of_gt y15)); (try (have hb5 := (hb1.alloc _).ext he2; (try simp only [World.size_alloc, World.size_drew] at hb5); obtain ⟨y16, y17, y18, y19, y20⟩ := hb5.parts2; have ny20a := Nat.ne_of_lt y20; have ny20b := Nat.ne_of_gt y20)); (try (have hb6 := (hb2).ext he2; (try simp only [World.size_alloc, World.size_drew] at hb6); obtain ⟨y21, y22, y23, y24, y25⟩ := hb6.parts2; have ny25a := Nat.ne_of_lt y25; have ny25b := Nat.ne_of_gt y25))))
    all_goals
      go_wp2_with fail
      go_meet
      refine ⟨_, _, A2, cap2, A3, cap3, rfl, rfl, ?_, ?_, ?_, ?_, h1.empty, h2.empty, ?_⟩
      rotate_right
      · repeat (first | exact (Kp.start (Nat.le_refl _)) | (refine Kp.drew ?_) | (refine Kp.alloc ?_ _) | (refine Kp.set ?_ (by first | (simp; done) | omega | (simp; omega)) _) | (refine Kp.call ?_ (by assumption)))
      all_goals go_simp
  case rest =>
    obtain ⟨g5, g6, A, c, B, d, rfl, rfl, t0, t1, t2, t3, r0, r1, hk⟩ := hcut
    have r0 := Lib.hid r0
    have r1 := Lib.hid r1
    have hY := Lib.hid (hk.ext hX (by omega))
    clear hk p0 p1 p2 p3 b0 b1
    go_wp2_with fail
    refine (c_rCmp00 _ _ _ r0.out r1.out).mono ?_
    rintro e w3 ⟨rfl, rfl⟩
    go_wp2
    go_ret
    exact ⟨rfl, hY.out⟩
end Go.Proofs.Ythfcllefmeoicaa
