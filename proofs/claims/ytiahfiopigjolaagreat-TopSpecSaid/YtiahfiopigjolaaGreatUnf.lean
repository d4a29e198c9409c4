/- Contract of seam.Unfit at a valid style. -/
import Derived.Test.YtiahfiopigjolaaGreatLns
namespace Go.Proofs.YtiahfiopigjolaaGreat
open Go Go.RowKit

/-- what the list of the seams that do not fit tells of the seams in front of k -/
def UfAt (s : St) (m : Int) (bad : List Int) (k : Nat) : Prop := ∀ j, j < k → lsE s m (nth s.seams j) = 0 ∧ ((j : Int) ∈ bad ∨ (lsA s m (nth s.seams j) - lsB s m (nth s.seams j) ≤ (nth s.seams j).ease ∧ lsB s m (nth s.seams j) - lsA s m (nth s.seams j) ≤ (nth s.seams j).ease))
/-- how Unfit ends -/
def UfOut (s : St) (m : Int) (w : World) (e : Ending) (w' : World) : Prop :=
  (∃ v c, e = .returned (.tuple #[v, .int .i64 c]) ∧ (c = 0 → ∃ bad, bad.length ≤ s.seams.length ∧ RdI w' v bad ∧ UfAt s m bad s.seams.length)) ∧ Ext w w'
theorem UfAt.zero (s : St) (m : Int) (bad : List Int) : UfAt s m bad 0 := fun j h => absurd h (by omega)
theorem UfAt.more {s : St} {m : Int} {bad : List Int} {k : Nat} (h : UfAt s m bad k) (he : lsE s m (nth s.seams k) = 0) : UfAt s m (bad ++ [(k : Int)]) (k + 1) := by
  intro j hj
  rcases Nat.lt_or_ge j k with h1 | h1
  · obtain ⟨h2, h3⟩ := h j h1
    exact ⟨h2, h3.imp (fun h => List.mem_append_left _ h) id⟩
  · rw [show j = k by omega]
    exact ⟨he, .inl (List.mem_append_right _ (by simp))⟩
theorem UfAt.same {s : St} {m : Int} {bad : List Int} {k : Nat} (h : UfAt s m bad k) (he : lsE s m (nth s.seams k) = 0) (h1 : lsA s m (nth s.seams k) - lsB s m (nth s.seams k) ≤ (nth s.seams k).ease) (h2 : lsB s m (nth s.seams k) - lsA s m (nth s.seams k) ≤ (nth s.seams k).ease) : UfAt s m bad (k + 1) := by
  intro j hj
  rcases Nat.lt_or_ge j k with h3 | h3
  · exact h j h3
  · rw [show j = k by omega]
    exact ⟨he, .inr ⟨h1, h2⟩⟩

set_option maxRecDepth 100000 in
set_option maxHeartbeats 4000000 in
theorem c_Unfit (s : St) (v1 v2 v3 v4 v5 v6 : Value) (z : Nat) (w : World) (h : StR w s v1 v2 v3 v4 v5 v6) (hok : StOk s) (hz : z < s.mults.length) : Calls Tryz.prog 12 #[.agg (stC s v1 v2 v3 v4 v5 v6).toArray, .int .i64 z] w (UfOut s s.mults[z] w) := by
  have hcs := Lib.hid (fun w h => c_smSize s v1 v2 v3 v4 v5 v6 z w h)
  have hcl := Lib.hid (fun (k : Nat) w h hk => c_Lengths s v1 v2 v3 v4 v5 v6 z k w h hok hz hk)
  have hst := Lib.hid h
  obtain ⟨A1, c1, rfl⟩ := h.sz.slice
  obtain ⟨A2, c2, rfl⟩ := h.mu.slice
  obtain ⟨A3, c3, rfl⟩ := h.pc.slice
  obtain ⟨A4, c4, rfl⟩ := h.us.slice
  obtain ⟨A5, c5, rfl⟩ := h.sm.slice
  obtain ⟨A6, c6, rfl, hops⟩ := h.op
  have hl2 := h.mu.le
  have hl5 := hok.ss
  unfold maxLen at hl2 hops
  have hsm := Lib.hid h.sm
  have hin := Lib.hid (fun k (hk : k < s.seams.length) => hok.seam k hk)
  clear h hok
  obtain ⟨m, hm⟩ : ∃ m, m = s.mults[z] := ⟨_, rfl⟩
  rw [← hm] at hcl ⊢
  clear hm
  have hzi : (z : Int) < s.mults.length := by omega
  have hz0 : (0 : Int) ≤ z := by omega
  have hd : decide ((0 : Int) ≤ (z : Int) ∧ (z : Int) < (s.mults.length : Int)) = true := decide_eq_true ⟨hz0, hzi⟩
  unfold stC at hcs hcl ⊢
  rw [hd] at hcs
  clear hd
  go_enter Tryz.func12, Tryz.ntmps12
  go_wp2_with fail
  refine (hcs.out _ (hst.out.ext ((Ext.refl w).alloc _))).mono ?_
  rintro e w1 ⟨rfl, hx⟩
  have hP := Lib.hid ((Blk.new w 29 (stC s (.slice A1 s.sizes.length c1) (.slice A2 s.mults.length c2) (.slice A3 s.pieces.length c3) (.slice A4 s.uses.length c4) (.slice A5 s.seams.length c5) (.slice A6 s.nops c6)).toArray).ext hx)
  have hX := Lib.hid (((Ext.refl w).alloc (.cells (stC s (.slice A1 s.sizes.length c1) (.slice A2 s.mults.length c2) (.slice A3 s.pieces.length c3) (.slice A4 s.uses.length c4) (.slice A5 s.seams.length c5) (.slice A6 s.nops c6)).toArray 29)).trans hx)
  clear hx hcs
  obtain ⟨q0, q1, q2, q3, q4, q5, q6⟩ := hP.out.parts7
  have lP := hP.out.lt
  go_wp2
  clear q0 q1 q2 q3 q4 q5 q6 lP
  go_loopw [6, 19] (fun u i wr => ∃ (k : Nat) (ys : List Int), k ≤ s.seams.length ∧ i = .int .i64 (k : Nat) ∧ ys.length ≤ k ∧ OwnL .i64 3 w1.heap.size wr u ys ∧ Hid (UfAt s m ys k) ∧ Ext w1 wr) (fun _ i _ => s.seams.length - (intOf i).toNat)
  case atStart => exact ⟨0, [], Nat.zero_le _, rfl, Nat.le_refl _, OwnL.nil _ _ _ _, Lib.hid (UfAt.zero _ _ _), Ext.refl _⟩
  case round =>
    obtain ⟨k, ys, hk, rfl, hyl, hown, hup, hX1⟩ := hrel
    obtain ⟨Ay, cy, rfl⟩ := hown.slice
    by_cases hlt : k < s.seams.length
    · obtain ⟨b, o, rfl, d0, d1, d2, d3, d4, d5⟩ := hsm.out.sm k hlt
      have hMore := Lib.hid (fun he => hup.out.more he)
      have hSame := Lib.hid (fun he h1 h2 => hup.out.same he h1 h2)
      obtain ⟨hia, hib⟩ := hin.out k hlt
      have hc := Lib.hid (fun w h => hcl.out k w h hlt)
      rw [nth_eq s.seams hlt] at hMore hSame
      obtain ⟨f, hf⟩ : ∃ f, f = s.seams[k] := ⟨_, rfl⟩
      rw [← hf] at d0 d1 d2 d3 d4 d5 hMore hSame hc hia hib
      clear hf
      have hLA : 0 ≤ lsA s m f ∧ lsA s m f ≤ 171798691840 := by
        obtain ⟨a, e, ha, e1, e2, e3⟩ := edgeB_nat hia
        unfold lsA
        rw [e1, e2, Int.toNat_natCast, nth_eq s.pieces ha]
        exact lenN_in e3
      have hLB : 0 ≤ lsB s m f ∧ lsB s m f ≤ 171798691840 := by
        obtain ⟨a, e, ha, e1, e2, e3⟩ := edgeB_nat hib
        unfold lsB
        rw [e1, e2, Int.toNat_natCast, nth_eq s.pieces ha]
        exact lenN_in e3
      clear hia hib
      have hF := Lib.hid (hX.out.trans hX1)
      replace d0 := hF.out.cell d0
      replace d1 := hF.out.cell d1
      replace d2 := hF.out.cell d2
      replace d3 := hF.out.cell d3
      replace d4 := hF.out.cell d4
      replace d5 := hF.out.cell d5
      have lb : b < wr.heap.size := World.block_lt_of_cell? _ _ d0
      have hki : (k : Int) < s.seams.length := by omega
      obtain ⟨q0, q1, q2, q3, q4, q5, q6⟩ := (hP.out.ext hX1).parts7
      have lP := (hP.out.ext hX1).lt
      have hX1h := Lib.hid hX1
      clear hX1
      replace hown := Lib.hid hown
      go_wp2_with fail
      obtain ⟨wB, hwB⟩ : ∃ wB, wB = wr.alloc (.cells #[.int .i64 f.pa, .int .i64 f.ea, .int .i64 f.pb, .int .i64 f.eb, .bool f.rev, .int .i64 f.ease] 55) := ⟨_, rfl⟩
      have hV := Lib.hid (show Blk wB wr.heap.size 55 #[.int .i64 f.pa, .int .i64 f.ea, .int .i64 f.pb, .int .i64 f.eb, .bool f.rev, .int .i64 f.ease] from hwB ▸ Blk.new _ _ _)
      have hXB := Lib.hid (show Ext w wB from hwB ▸ hF.out.alloc _)
      have hXrB := Lib.hid (show Ext wr wB from hwB ▸ (Ext.refl wr).alloc _)
      rw [← hwB]
      clear hwB q0 q1 q2 q3 q4 q5 q6 lP d0 d1 d2 d3 d4 d5 lb
      refine (hc.out _ (hst.out.ext hXB.out)).mono ?_
      rintro e w4 ⟨hes, hx⟩
      have hV4 := Lib.hid (hV.out.ext hx)
      have hXr4 := Lib.hid (hXrB.out.trans hx)
      have hX4 := Lib.hid (hXB.out.trans hx)
      have hE4 := Lib.hid (hX1h.out.trans hXr4.out)
      clear hx
      obtain ⟨p0, p1, p2, p3, p4, p5⟩ := hV4.out.parts6
      have lV := hV4.out.lt
      obtain ⟨LA, hLAe⟩ : ∃ x, x = lsA s m f := ⟨_, rfl⟩
      obtain ⟨LB, hLBe⟩ : ∃ x, x = lsB s m f := ⟨_, rfl⟩
      rw [← hLAe] at hLA hes hSame
      rw [← hLBe] at hLB hes hSame
      clear hLAe hLBe
      rcases hes with ⟨hl0, rfl⟩ | ⟨hl0, rfl⟩
      rotate_left
      · have hn0 : (lsE s m f != 0) = true := bne_iff_ne.2 hl0
        generalize lsE s m f = E at *
        replace hl0 := Lib.hid hl0
        go_wp2
        go_ret2
        exact ⟨⟨_, _, rfl, fun h => absurd h hl0.out⟩, hX4.out⟩
      have hw1 : IntKind.i64.wrap (LA - LB) = LA - LB := IntWalk.i64_in _ (by omega)
      have hw2 : IntKind.i64.wrap (LB - LA) = LB - LA := IntWalk.i64_in _ (by omega)
      have hM := Lib.hid (hMore.out hl0)
      have hS := Lib.hid (hSame.out hl0)
      replace hl0 := Lib.hid hl0
      have ho1 := Lib.hid (hown.out.ext hXr4.out)
      by_cases hfit : max (LA - LB) (LB - LA) ≤ f.ease
      · have hup2 := Lib.hid (hS.out (by omega) (by omega))
        go_wp2
        go_roundw
        case rel => exact ⟨k + 1, ys, by omega, by go_num, by omega, ho1.out, hup2, hE4.out⟩
        case measure => simp [intOf]; omega
      · go_wp2_with (at_builtin; refine wpList_app1 rfl (.tmp 45) (.tmp 47) 23 rfl .i64 3 w1.heap.size 8 Tryz.underlying23 info_int (by decide) _ ys k w4.heap.size 1 rfl (ho1.out.alloc _) rfl ?_ ?_ ?_ ?_; (simp); (omega); (have := hE4.out.size; simp; omega); (intro A2 cap2 w5 ho hg hat2))
        go_roundw
        case rel => exact ⟨k + 1, ys ++ [(k : Int)], by omega, by go_num, by simp; omega, (by simpa using ho), Lib.hid hM.out, (ho1.out.alloc _).extGrown (hE4.out.alloc _) (Nat.le_refl _) hg⟩
        case measure => simp [intOf]; omega
    · have hki : ¬ (k : Int) < s.seams.length := by omega
      have hkn : k = s.seams.length := by omega
      rw [hkn] at hup
      have hf := Lib.hid hown.rdI
      replace hown := Lib.hid hown
      have hX2 := Lib.hid (hX.out.trans hX1)
      clear hX1
      go_wp2
      go_ret2
      exact ⟨⟨_, _, rfl, fun _ => ⟨ys, by omega, hf.out, hup.out⟩⟩, hX2.out⟩

end Go.Proofs.YtiahfiopigjolaaGreat
