/- Contract of measures: the example is as it is said to be. -/
import Derived.Test.YtiahfiopigjolaaGreatShi
import Derived.Deep.Cut
namespace Go.Proofs.YtiahfiopigjolaaGreat
open Go Go.RowKit

theorem ex_jdC : (jdC exStyle [exPom] 0 [9990] [exPom].length).toArray = #[.int .i64 (-5)] := by
  show #[Value.int .i64 (jdAt exStyle [exPom] 0 [9990] 1 0)] = _
  rw [ex_out]

set_option maxRecDepth 100000 in
set_option maxHeartbeats 60000000 in
theorem c_measures (w : World) : Calls Tryz.prog 7 #[] w fun e w' => e = .returned (.bool true) ∧ Ext w w' := by
  have hcs := Lib.hid (fun w => c_shirt w)
  have hca : Hid (∀ (v1 v2 v3 v4 v5 v6 u1 u2 : Value) (w : World), StR w exStyle v1 v2 v3 v4 v5 v6 → PmR w exPom u1 u2 → Calls Tryz.prog 10 #[.agg (stC exStyle v1 v2 v3 v4 v5 v6).toArray, .agg #[.string ⟨#[104, 101, 109]⟩, u1, u2, .int .i64 5, .int .i64 5], .int .i64 0] w fun e w' => e = .returned (.tuple #[.int .i64 10000, .int .i64 0]) ∧ Ext w w') := Lib.hid (fun v1 v2 v3 v4 v5 v6 u1 u2 w h hp => by
    have := c_Target exStyle v1 v2 v3 v4 v5 v6 exPom u1 u2 0 w h hp
    rw [ex_a.1, ex_a.2] at this
    exact this)
  have hcb : Hid (∀ (v1 v2 v3 v4 v5 v6 u1 u2 : Value) (w : World), StR w exStyle v1 v2 v3 v4 v5 v6 → PmR w exPom u1 u2 → Calls Tryz.prog 10 #[.agg (stC exStyle v1 v2 v3 v4 v5 v6).toArray, .agg #[.string ⟨#[104, 101, 109]⟩, u1, u2, .int .i64 5, .int .i64 5], .int .i64 1] w fun e w' => e = .returned (.tuple #[.int .i64 12000, .int .i64 0]) ∧ Ext w w') := Lib.hid (fun v1 v2 v3 v4 v5 v6 u1 u2 w h hp => by
    have := c_Target exStyle v1 v2 v3 v4 v5 v6 exPom u1 u2 1 w h hp
    rw [ex_b.1, ex_b.2] at this
    exact this)
  have hcw : Hid (∀ (v1 v2 v3 v4 v5 v6 v u : Value) (w : World), StR w exStyle v1 v2 v3 v4 v5 v6 → RdL 5 pmP w v [exPom] → RdL 1 inP w u [10005] → Calls Tryz.prog 11 #[.agg (stC exStyle v1 v2 v3 v4 v5 v6).toArray, v, .int .i64 0, u] w fun e w' => e = .returned (.tuple #[.bool true, .int .i64 0]) ∧ Ext w w') := Lib.hid (fun v1 v2 v3 v4 v5 v6 v u w h h2 h3 => by
    have := c_Within exStyle v1 v2 v3 v4 v5 v6 [exPom] v u 0 0 [10005] w h h2 h3 (ex_jd (by decide) (by decide))
    rw [ex_in] at this
    exact this)
  have hcj : Hid (∀ (v1 v2 v3 v4 v5 v6 v u : Value) (w : World), StR w exStyle v1 v2 v3 v4 v5 v6 → RdL 5 pmP w v [exPom] → RdL 1 inP w u [9990] → Calls Tryz.prog 18 #[.agg (stC exStyle v1 v2 v3 v4 v5 v6).toArray, v, .int .i64 0, u] w fun e w' => ∃ g, e = .returned (.tuple #[.slice (some ⟨g, 0, none⟩) 1 1, .int .i64 0]) ∧ Blk w' g 3 #[.int .i64 (-5)] ∧ Ext w w') := Lib.hid (fun v1 v2 v3 v4 v5 v6 v u w h h2 h3 => by
    have := c_Judge exStyle v1 v2 v3 v4 v5 v6 [exPom] v u 0 0 [9990] w h h2 h3 (ex_jd (by decide) (by decide))
    rw [ex_jdC] at this
    exact this)
  go_enter Tryz.func7, Tryz.ntmps7
  go_wp2_with fail
  obtain ⟨W, hW⟩ : ∃ W, W = ((w.alloc (.cells #[.int .i64 0] 3)).alloc (.cells #[.int .i64 0] 3)).alloc (.cells #[.string ⟨#[104, 101, 109]⟩, .slice (some ⟨w.heap.size, 0, none⟩) 1 1, .slice (some ⟨w.heap.size + 1, 0, none⟩) 1 1, .int .i64 5, .int .i64 5] 37) := ⟨_, rfl⟩
  have hX := Lib.hid (show Ext w W from hW ▸ (((Ext.refl w).alloc _).alloc _).alloc _)
  have hV := Lib.hid (show Blk W (w.heap.size + 1 + 1) 37 #[.string ⟨#[104, 101, 109]⟩, .slice (some ⟨w.heap.size, 0, none⟩) 1 1, .slice (some ⟨w.heap.size + 1, 0, none⟩) 1 1, .int .i64 5, .int .i64 5] from hW ▸ Blk.at (by simp))
  have hpm := Lib.hid (show PmR W exPom (.slice (some ⟨w.heap.size, 0, none⟩) 1 1) (.slice (some ⟨w.heap.size + 1, 0, none⟩) 1 1) from
    ⟨rdInt_one (hW ▸ ((Blk.new _ _ _).alloc _).alloc _), rdInt_one (hW ▸ (Blk.at (by simp)).alloc _), by show bHem.size ≤ maxLen; decide⟩)
  rw [← hW]
  clear hW
  obtain ⟨p0, p1, p2, p3, p4⟩ := hV.out.parts5
  have lP := hV.out.lt
  have hN : W.heap.size ≤ W.heap.size := Nat.le_refl _
  go_region_held3 (fun w' => (∀ b o, b < W.heap.size → w'.cell? ⟨b, o, none⟩ = W.cell? ⟨b, o, none⟩) ∧ Kp W.heap.size W w')
    (first
      | exact (Kp.start hN).drew.both
      | (go_split_ands; exact ((by assumption : Kp _ _ _).call he).both)
      | assumption)
    (first
      | (go_at_call 17; refine (hcs.out _).mono ?_; rintro e w2 ⟨v1, v2, v3, v4, v5, v6, rfl, hs, he⟩; replace hs := Lib.hid hs)
      | (go_at_call 10; go_split_ands; with_reducible refine (hca.out _ _ _ _ _ _ _ _ _ hs.out (hpm.out.ext ((by assumption : Kp _ _ w2).ext (Ext.refl W) (Nat.le_refl _)))).mono ?_; rintro e w3 ⟨rfl, he⟩))
  go_split_ands
  have hE3 := Lib.hid ((by assumption : Kp _ _ w3).ext (Ext.refl W) (Nat.le_refl _))
  clear p0 p1 p2 p3 p4 lP he hN
  obtain ⟨p0, p1, p2, p3, p4⟩ := (hV.out.ext hE3.out).parts5
  have lP := (hV.out.ext hE3.out).lt
  go_wp2_with fail
  have hN : w3.heap.size ≤ w3.heap.size := Nat.le_refl _
  replace hpm := Lib.hid (hpm.out.ext hE3.out)
  go_region_held3 (fun w' => (∀ b o, b < w3.heap.size → w'.cell? ⟨b, o, none⟩ = w3.cell? ⟨b, o, none⟩) ∧ Kp w3.heap.size w3 w')
    (first
      | exact (Kp.start hN).drew.both
      | (go_split_ands; exact ((by assumption : Kp _ _ _).call he).both)
      | assumption)
    (first
      | (go_at_call 17; refine (hcs.out _).mono ?_; rintro e w4 ⟨x1, x2, x3, x4, x5, x6, rfl, ht, he⟩; replace ht := Lib.hid ht)
      | (go_at_call 10; go_split_ands; with_reducible refine (hcb.out _ _ _ _ _ _ _ _ _ ht.out (hpm.out.ext ((by assumption : Kp _ _ w4).ext (Ext.refl w3) (Nat.le_refl _)))).mono ?_; rintro e w5 ⟨rfl, he⟩))
  go_split_ands
  have hE5 := Lib.hid ((by assumption : Kp _ _ w5).ext (Ext.refl w3) (Nat.le_refl _))
  replace hpm := Lib.hid (hpm.out.ext hE5.out)
  have hV5 := Lib.hid ((hV.out.ext hE3.out).ext hE5.out)
  have hX5 := Lib.hid ((hX.out.trans hE3.out).trans hE5.out)
  clear p0 p1 p2 p3 p4 lP he hN hs ht hcb hca hE3 hE5 hV hX
  go_wp2_with fail
  obtain ⟨wS, hwS⟩ : ∃ wS, wS = w5 := ⟨_, rfl⟩
  rw [← hwS] at hpm hV5 hX5 ⊢
  clear hwS
  obtain ⟨p0, p1, p2, p3, p4⟩ := hV5.out.parts5
  have lP := hV5.out.lt
  go_cut [6, 7] from 10 (fun s6 s7 wc => s6 = .bool true ∧ s7 = .int .i64 0 ∧ Ext wS wc)
  case first =>
    refine wp_region_held_drew (S := fun w' => (∀ b o, b < wS.heap.size → w'.cell? ⟨b, o, none⟩ = wS.cell? ⟨b, o, none⟩) ∧ Ext wS w') (by kernel_rfl) ⟨fun b o hb => rfl, (Ext.refl wS).drew⟩ (fun hHeld => ?_)
    refine wpAnyH_take (i := 1) (oi := ⟨some 27, _, _, _, _, _⟩) (v := ?_) rfl (by kernel_rfl) (by kernel_rfl) (by kernel_rfl) (fun _ _ _ h => h) (Or.inl ⟨by rfl, ?_⟩) hHeld ?_
    rotate_left
    · intro w hSw; go_simp; try with_reducible rfl
    try simp only [Act.put, List.setIfInBounds_toArray, List.set_cons_zero, List.set_cons_succ]
    have hE1 := Lib.hid hHeld.2
    clear p0 p1 p2 p3 p4 lP
    generalize wS.drew = w1 at hHeld hE1 ⊢
    refine wpAnyH_ready (rs := [0, 2, 3]) (by kernel_rfl) (by simp) ?_
    refine AllReadyH.cons (o := ⟨some 26, _, _, _, _, _⟩) rfl (fun K hK => ?_) ?_
    · go_simp
      refine (hcs.out _).mono ?_
      rintro e w2 ⟨v1, v2, v3, v4, v5, v6, rfl, hs, hx⟩
      replace hs := Lib.hid hs
      have hE2 := Lib.hid (hE1.out.trans hx)
      go_wp2_with fail
      refine hK.out _ _ ⟨fun b o hb => hE2.out.below.cell (p := ⟨b, o, none⟩) hb, hE2.out⟩ (fun hHeld => ?_)
      clear hK K hx
      try simp only [Act.put, List.setIfInBounds_toArray, List.set_cons_zero, List.set_cons_succ]
      refine wpAnyH_ready (rs := [2, 3]) (by kernel_rfl) (by simp) ?_
      refine AllReadyH.cons (o := ⟨some 28, _, _, _, _, _⟩) rfl (fun K hK => ?_) ?_
      · go_simp
        have hx : Ext w2 (w2.alloc (.cells #[.string ⟨#[104, 101, 109]⟩, .slice (some ⟨w.heap.size, 0, none⟩) 1 1, .slice (some ⟨w.heap.size + 1, 0, none⟩) 1 1, .int .i64 5, .int .i64 5] 37)) := (Ext.refl _).alloc _
        have ha := Lib.hid (show RdL 5 pmP (w2.alloc (.cells #[.string ⟨#[104, 101, 109]⟩, .slice (some ⟨w.heap.size, 0, none⟩) 1 1, .slice (some ⟨w.heap.size + 1, 0, none⟩) 1 1, .int .i64 5, .int .i64 5] 37)) (.slice (some ⟨w2.heap.size, 0, none⟩) 1 1) [exPom] from rdPm_one (Blk.new _ _ _) (hpm.out.ext (hE2.out.trans hx)))
        have hE3 := Lib.hid (hE2.out.trans hx)
        replace hs := Lib.hid (hs.out.ext hx)
        refine hK.out _ _ ⟨fun b o hb => hE3.out.below.cell (p := ⟨b, o, none⟩) hb, hE3.out⟩ (fun hHeld => ?_)
        clear hK K hx
        generalize w2.alloc (.cells #[.string ⟨#[104, 101, 109]⟩, .slice (some ⟨w.heap.size, 0, none⟩) 1 1, .slice (some ⟨w.heap.size + 1, 0, none⟩) 1 1, .int .i64 5, .int .i64 5] 37) = w3 at *
        generalize w2.heap.size = ga at *
        try simp only [Act.put, List.setIfInBounds_toArray, List.set_cons_zero, List.set_cons_succ]
        refine wpAnyH_ready (rs := [3]) (by kernel_rfl) (by simp) ?_
        refine AllReadyH.cons (o := ⟨some 29, _, _, _, _, _⟩) rfl (fun K hK => ?_) ?_
        · go_simp
          have hx : Ext w3 (w3.alloc (.cells #[.int .i64 10005] 3)) := (Ext.refl _).alloc _
          have hb := Lib.hid (show RdL 1 inP (w3.alloc (.cells #[.int .i64 10005] 3)) (.slice (some ⟨w3.heap.size, 0, none⟩) 1 1) [10005] from rdInt_one (Blk.new _ _ _))
          have hE4 := Lib.hid (hE3.out.trans hx)
          replace hs := Lib.hid (hs.out.ext hx)
          replace ha := Lib.hid (ha.out.ext pmP.stays hx)
          refine hK.out _ _ ⟨fun b o hb => hE4.out.below.cell (p := ⟨b, o, none⟩) hb, hE4.out⟩ (fun hHeld => ?_)
          clear hK K hx
          generalize w3.alloc (.cells #[.int .i64 10005] 3) = w4 at *
          generalize w3.heap.size = gb at *
          try simp only [Act.put, List.setIfInBounds_toArray, List.set_cons_zero, List.set_cons_succ]
          refine wpAnyH_ready (rs := [4]) (by kernel_rfl) (by simp) (AllReadyH.cons (o := ⟨some 30, _, _, _, _, _⟩) rfl (fun K hK => ?_) AllReadyH.nil)
          go_simp
          refine (hcw.out _ _ _ _ _ _ _ _ _ hs.out ha.out hb.out).mono ?_
          rintro e w5 ⟨rfl, he⟩
          have hE5 := Lib.hid (hE4.out.trans he)
          clear he
          go_wp2_with fail
          refine hK.out _ _ ⟨fun b o hb => hE5.out.below.cell (p := ⟨b, o, none⟩) hb, hE5.out⟩ (fun hHeld => ?_)
          clear hK K
          try simp only [Act.put, List.setIfInBounds_toArray, List.set_cons_zero, List.set_cons_succ]
          refine wpAnyH_take (i := 5) (oi := ⟨some 25, _, _, _, _, _⟩) (v := ?_) rfl (by kernel_rfl) (by kernel_rfl) (by kernel_rfl) (fun _ _ _ h => h) (Or.inl ⟨by rfl, ?_⟩) hHeld ?_
          rotate_left
          · intro w hSw; go_simp; try with_reducible rfl
          try simp only [Act.put, List.setIfInBounds_toArray, List.set_cons_zero, List.set_cons_succ]
          refine wpAnyH_take (i := 6) (oi := ⟨some 31, _, _, _, _, _⟩) (v := ?_) rfl (by kernel_rfl) (by kernel_rfl) (by kernel_rfl) (fun _ _ _ h => h) (Or.inl ⟨by rfl, ?_⟩) hHeld ?_
          rotate_left
          · intro w hSw; go_simp; try with_reducible rfl
          try simp only [Act.put, List.setIfInBounds_toArray, List.set_cons_zero, List.set_cons_succ]
          refine wpAnyH_take (i := 7) (oi := ⟨some 32, _, _, _, _, _⟩) (v := ?_) rfl (by kernel_rfl) (by kernel_rfl) (by kernel_rfl) (fun _ _ _ h => h) (Or.inl ⟨by rfl, ?_⟩) hHeld ?_
          rotate_left
          · intro w hSw; go_simp; try with_reducible rfl
          try simp only [Act.put, List.setIfInBounds_toArray, List.set_cons_zero, List.set_cons_succ]
          refine wpAnyH_take (i := 8) (oi := ⟨some 6, _, _, _, _, _⟩) (v := ?_) rfl (by kernel_rfl) (by kernel_rfl) (by kernel_rfl) (fun _ _ _ h => h) (Or.inl ⟨by rfl, ?_⟩) hHeld ?_
          rotate_left
          · intro w hSw; go_simp; try with_reducible rfl
          try simp only [Act.put, List.setIfInBounds_toArray, List.set_cons_zero, List.set_cons_succ]
          refine wpAnyH_take (i := 9) (oi := ⟨some 7, _, _, _, _, _⟩) (v := ?_) rfl (by kernel_rfl) (by kernel_rfl) (by kernel_rfl) (fun _ _ _ h => h) (Or.inl ⟨by rfl, ?_⟩) hHeld ?_
          rotate_left
          · intro w hSw; go_simp; try with_reducible rfl
          try simp only [Act.put, List.setIfInBounds_toArray, List.set_cons_zero, List.set_cons_succ]
          refine wpAnyH_done (by kernel_rfl) ?_ _
          go_wp2_with fail
          go_meet
          exact ⟨rfl, rfl, hE5.out⟩
        exact AllReadyH.nil
      refine AllReadyH.cons (o := ⟨some 29, _, _, _, _, _⟩) rfl (fun K hK => ?_) ?_
      · go_simp
        have hx : Ext w2 (w2.alloc (.cells #[.int .i64 10005] 3)) := (Ext.refl _).alloc _
        have hb := Lib.hid (show RdL 1 inP (w2.alloc (.cells #[.int .i64 10005] 3)) (.slice (some ⟨w2.heap.size, 0, none⟩) 1 1) [10005] from rdInt_one (Blk.new _ _ _))
        have hE6 := Lib.hid (hE2.out.trans hx)
        replace hs := Lib.hid (hs.out.ext hx)
        refine hK.out _ _ ⟨fun b o hb => hE6.out.below.cell (p := ⟨b, o, none⟩) hb, hE6.out⟩ (fun hHeld => ?_)
        clear hK K hx
        generalize w2.alloc (.cells #[.int .i64 10005] 3) = w6 at *
        generalize w2.heap.size = gb at *
        try simp only [Act.put, List.setIfInBounds_toArray, List.set_cons_zero, List.set_cons_succ]
        refine wpAnyH_ready (rs := [2]) (by kernel_rfl) (by simp) ?_
        refine AllReadyH.cons (o := ⟨some 28, _, _, _, _, _⟩) rfl (fun K hK => ?_) ?_
        · go_simp
          have hx : Ext w6 (w6.alloc (.cells #[.string ⟨#[104, 101, 109]⟩, .slice (some ⟨w.heap.size, 0, none⟩) 1 1, .slice (some ⟨w.heap.size + 1, 0, none⟩) 1 1, .int .i64 5, .int .i64 5] 37)) := (Ext.refl _).alloc _
          have ha := Lib.hid (show RdL 5 pmP (w6.alloc (.cells #[.string ⟨#[104, 101, 109]⟩, .slice (some ⟨w.heap.size, 0, none⟩) 1 1, .slice (some ⟨w.heap.size + 1, 0, none⟩) 1 1, .int .i64 5, .int .i64 5] 37)) (.slice (some ⟨w6.heap.size, 0, none⟩) 1 1) [exPom] from rdPm_one (Blk.new _ _ _) (hpm.out.ext (hE6.out.trans hx)))
          have hE7 := Lib.hid (hE6.out.trans hx)
          replace hs := Lib.hid (hs.out.ext hx)
          replace hb := Lib.hid (hb.out.ext inP.stays hx)
          refine hK.out _ _ ⟨fun b o hb => hE7.out.below.cell (p := ⟨b, o, none⟩) hb, hE7.out⟩ (fun hHeld => ?_)
          clear hK K hx
          generalize w6.alloc (.cells #[.string ⟨#[104, 101, 109]⟩, .slice (some ⟨w.heap.size, 0, none⟩) 1 1, .slice (some ⟨w.heap.size + 1, 0, none⟩) 1 1, .int .i64 5, .int .i64 5] 37) = w7 at *
          generalize w6.heap.size = ga at *
          try simp only [Act.put, List.setIfInBounds_toArray, List.set_cons_zero, List.set_cons_succ]
          refine wpAnyH_ready (rs := [4]) (by kernel_rfl) (by simp) (AllReadyH.cons (o := ⟨some 30, _, _, _, _, _⟩) rfl (fun K hK => ?_) AllReadyH.nil)
          go_simp
          refine (hcw.out _ _ _ _ _ _ _ _ _ hs.out ha.out hb.out).mono ?_
          rintro e w8 ⟨rfl, he⟩
          have hE8 := Lib.hid (hE7.out.trans he)
          clear he
          go_wp2_with fail
          refine hK.out _ _ ⟨fun b o hb => hE8.out.below.cell (p := ⟨b, o, none⟩) hb, hE8.out⟩ (fun hHeld => ?_)
          clear hK K
          try simp only [Act.put, List.setIfInBounds_toArray, List.set_cons_zero, List.set_cons_succ]
          refine wpAnyH_take (i := 5) (oi := ⟨some 25, _, _, _, _, _⟩) (v := ?_) rfl (by kernel_rfl) (by kernel_rfl) (by kernel_rfl) (fun _ _ _ h => h) (Or.inl ⟨by rfl, ?_⟩) hHeld ?_
          rotate_left
          · intro w hSw; go_simp; try with_reducible rfl
          try simp only [Act.put, List.setIfInBounds_toArray, List.set_cons_zero, List.set_cons_succ]
          refine wpAnyH_take (i := 6) (oi := ⟨some 31, _, _, _, _, _⟩) (v := ?_) rfl (by kernel_rfl) (by kernel_rfl) (by kernel_rfl) (fun _ _ _ h => h) (Or.inl ⟨by rfl, ?_⟩) hHeld ?_
          rotate_left
          · intro w hSw; go_simp; try with_reducible rfl
          try simp only [Act.put, List.setIfInBounds_toArray, List.set_cons_zero, List.set_cons_succ]
          refine wpAnyH_take (i := 7) (oi := ⟨some 32, _, _, _, _, _⟩) (v := ?_) rfl (by kernel_rfl) (by kernel_rfl) (by kernel_rfl) (fun _ _ _ h => h) (Or.inl ⟨by rfl, ?_⟩) hHeld ?_
          rotate_left
          · intro w hSw; go_simp; try with_reducible rfl
          try simp only [Act.put, List.setIfInBounds_toArray, List.set_cons_zero, List.set_cons_succ]
          refine wpAnyH_take (i := 8) (oi := ⟨some 6, _, _, _, _, _⟩) (v := ?_) rfl (by kernel_rfl) (by kernel_rfl) (by kernel_rfl) (fun _ _ _ h => h) (Or.inl ⟨by rfl, ?_⟩) hHeld ?_
          rotate_left
          · intro w hSw; go_simp; try with_reducible rfl
          try simp only [Act.put, List.setIfInBounds_toArray, List.set_cons_zero, List.set_cons_succ]
          refine wpAnyH_take (i := 9) (oi := ⟨some 7, _, _, _, _, _⟩) (v := ?_) rfl (by kernel_rfl) (by kernel_rfl) (by kernel_rfl) (fun _ _ _ h => h) (Or.inl ⟨by rfl, ?_⟩) hHeld ?_
          rotate_left
          · intro w hSw; go_simp; try with_reducible rfl
          try simp only [Act.put, List.setIfInBounds_toArray, List.set_cons_zero, List.set_cons_succ]
          refine wpAnyH_done (by kernel_rfl) ?_ _
          go_wp2_with fail
          go_meet
          exact ⟨rfl, rfl, hE8.out⟩
        exact AllReadyH.nil
      exact AllReadyH.nil
    refine AllReadyH.cons (o := ⟨some 28, _, _, _, _, _⟩) rfl (fun K hK => ?_) ?_
    · go_simp
      have hx : Ext w1 (w1.alloc (.cells #[.string ⟨#[104, 101, 109]⟩, .slice (some ⟨w.heap.size, 0, none⟩) 1 1, .slice (some ⟨w.heap.size + 1, 0, none⟩) 1 1, .int .i64 5, .int .i64 5] 37)) := (Ext.refl _).alloc _
      have ha := Lib.hid (show RdL 5 pmP (w1.alloc (.cells #[.string ⟨#[104, 101, 109]⟩, .slice (some ⟨w.heap.size, 0, none⟩) 1 1, .slice (some ⟨w.heap.size + 1, 0, none⟩) 1 1, .int .i64 5, .int .i64 5] 37)) (.slice (some ⟨w1.heap.size, 0, none⟩) 1 1) [exPom] from rdPm_one (Blk.new _ _ _) (hpm.out.ext (hE1.out.trans hx)))
      have hE9 := Lib.hid (hE1.out.trans hx)
      refine hK.out _ _ ⟨fun b o hb => hE9.out.below.cell (p := ⟨b, o, none⟩) hb, hE9.out⟩ (fun hHeld => ?_)
      clear hK K hx
      generalize w1.alloc (.cells #[.string ⟨#[104, 101, 109]⟩, .slice (some ⟨w.heap.size, 0, none⟩) 1 1, .slice (some ⟨w.heap.size + 1, 0, none⟩) 1 1, .int .i64 5, .int .i64 5] 37) = w9 at *
      generalize w1.heap.size = ga at *
      try simp only [Act.put, List.setIfInBounds_toArray, List.set_cons_zero, List.set_cons_succ]
      refine wpAnyH_ready (rs := [0, 3]) (by kernel_rfl) (by simp) ?_
      refine AllReadyH.cons (o := ⟨some 26, _, _, _, _, _⟩) rfl (fun K hK => ?_) ?_
      · go_simp
        refine (hcs.out _).mono ?_
        rintro e w10 ⟨v1, v2, v3, v4, v5, v6, rfl, hs, hx⟩
        replace hs := Lib.hid hs
        have hE10 := Lib.hid (hE9.out.trans hx)
        replace ha := Lib.hid (ha.out.ext pmP.stays hx)
        go_wp2_with fail
        refine hK.out _ _ ⟨fun b o hb => hE10.out.below.cell (p := ⟨b, o, none⟩) hb, hE10.out⟩ (fun hHeld => ?_)
        clear hK K hx
        try simp only [Act.put, List.setIfInBounds_toArray, List.set_cons_zero, List.set_cons_succ]
        refine wpAnyH_ready (rs := [3]) (by kernel_rfl) (by simp) ?_
        refine AllReadyH.cons (o := ⟨some 29, _, _, _, _, _⟩) rfl (fun K hK => ?_) ?_
        · go_simp
          have hx : Ext w10 (w10.alloc (.cells #[.int .i64 10005] 3)) := (Ext.refl _).alloc _
          have hb := Lib.hid (show RdL 1 inP (w10.alloc (.cells #[.int .i64 10005] 3)) (.slice (some ⟨w10.heap.size, 0, none⟩) 1 1) [10005] from rdInt_one (Blk.new _ _ _))
          have hE11 := Lib.hid (hE10.out.trans hx)
          replace ha := Lib.hid (ha.out.ext pmP.stays hx)
          replace hs := Lib.hid (hs.out.ext hx)
          refine hK.out _ _ ⟨fun b o hb => hE11.out.below.cell (p := ⟨b, o, none⟩) hb, hE11.out⟩ (fun hHeld => ?_)
          clear hK K hx
          generalize w10.alloc (.cells #[.int .i64 10005] 3) = w11 at *
          generalize w10.heap.size = gb at *
          try simp only [Act.put, List.setIfInBounds_toArray, List.set_cons_zero, List.set_cons_succ]
          refine wpAnyH_ready (rs := [4]) (by kernel_rfl) (by simp) (AllReadyH.cons (o := ⟨some 30, _, _, _, _, _⟩) rfl (fun K hK => ?_) AllReadyH.nil)
          go_simp
          refine (hcw.out _ _ _ _ _ _ _ _ _ hs.out ha.out hb.out).mono ?_
          rintro e w12 ⟨rfl, he⟩
          have hE12 := Lib.hid (hE11.out.trans he)
          clear he
          go_wp2_with fail
          refine hK.out _ _ ⟨fun b o hb => hE12.out.below.cell (p := ⟨b, o, none⟩) hb, hE12.out⟩ (fun hHeld => ?_)
          clear hK K
          try simp only [Act.put, List.setIfInBounds_toArray, List.set_cons_zero, List.set_cons_succ]
          refine wpAnyH_take (i := 5) (oi := ⟨some 25, _, _, _, _, _⟩) (v := ?_) rfl (by kernel_rfl) (by kernel_rfl) (by kernel_rfl) (fun _ _ _ h => h) (Or.inl ⟨by rfl, ?_⟩) hHeld ?_
          rotate_left
          · intro w hSw; go_simp; try with_reducible rfl
          try simp only [Act.put, List.setIfInBounds_toArray, List.set_cons_zero, List.set_cons_succ]
          refine wpAnyH_take (i := 6) (oi := ⟨some 31, _, _, _, _, _⟩) (v := ?_) rfl (by kernel_rfl) (by kernel_rfl) (by kernel_rfl) (fun _ _ _ h => h) (Or.inl ⟨by rfl, ?_⟩) hHeld ?_
          rotate_left
          · intro w hSw; go_simp; try with_reducible rfl
          try simp only [Act.put, List.setIfInBounds_toArray, List.set_cons_zero, List.set_cons_succ]
          refine wpAnyH_take (i := 7) (oi := ⟨some 32, _, _, _, _, _⟩) (v := ?_) rfl (by kernel_rfl) (by kernel_rfl) (by kernel_rfl) (fun _ _ _ h => h) (Or.inl ⟨by rfl, ?_⟩) hHeld ?_
          rotate_left
          · intro w hSw; go_simp; try with_reducible rfl
          try simp only [Act.put, List.setIfInBounds_toArray, List.set_cons_zero, List.set_cons_succ]
          refine wpAnyH_take (i := 8) (oi := ⟨some 6, _, _, _, _, _⟩) (v := ?_) rfl (by kernel_rfl) (by kernel_rfl) (by kernel_rfl) (fun _ _ _ h => h) (Or.inl ⟨by rfl, ?_⟩) hHeld ?_
          rotate_left
          · intro w hSw; go_simp; try with_reducible rfl
          try simp only [Act.put, List.setIfInBounds_toArray, List.set_cons_zero, List.set_cons_succ]
          refine wpAnyH_take (i := 9) (oi := ⟨some 7, _, _, _, _, _⟩) (v := ?_) rfl (by kernel_rfl) (by kernel_rfl) (by kernel_rfl) (fun _ _ _ h => h) (Or.inl ⟨by rfl, ?_⟩) hHeld ?_
          rotate_left
          · intro w hSw; go_simp; try with_reducible rfl
          try simp only [Act.put, List.setIfInBounds_toArray, List.set_cons_zero, List.set_cons_succ]
          refine wpAnyH_done (by kernel_rfl) ?_ _
          go_wp2_with fail
          go_meet
          exact ⟨rfl, rfl, hE12.out⟩
        exact AllReadyH.nil
      refine AllReadyH.cons (o := ⟨some 29, _, _, _, _, _⟩) rfl (fun K hK => ?_) ?_
      · go_simp
        have hx : Ext w9 (w9.alloc (.cells #[.int .i64 10005] 3)) := (Ext.refl _).alloc _
        have hb := Lib.hid (show RdL 1 inP (w9.alloc (.cells #[.int .i64 10005] 3)) (.slice (some ⟨w9.heap.size, 0, none⟩) 1 1) [10005] from rdInt_one (Blk.new _ _ _))
        have hE13 := Lib.hid (hE9.out.trans hx)
        replace ha := Lib.hid (ha.out.ext pmP.stays hx)
        refine hK.out _ _ ⟨fun b o hb => hE13.out.below.cell (p := ⟨b, o, none⟩) hb, hE13.out⟩ (fun hHeld => ?_)
        clear hK K hx
        generalize w9.alloc (.cells #[.int .i64 10005] 3) = w13 at *
        generalize w9.heap.size = gb at *
        try simp only [Act.put, List.setIfInBounds_toArray, List.set_cons_zero, List.set_cons_succ]
        refine wpAnyH_ready (rs := [0]) (by kernel_rfl) (by simp) ?_
        refine AllReadyH.cons (o := ⟨some 26, _, _, _, _, _⟩) rfl (fun K hK => ?_) ?_
        · go_simp
          refine (hcs.out _).mono ?_
          rintro e w14 ⟨v1, v2, v3, v4, v5, v6, rfl, hs, hx⟩
          replace hs := Lib.hid hs
          have hE14 := Lib.hid (hE13.out.trans hx)
          replace ha := Lib.hid (ha.out.ext pmP.stays hx)
          replace hb := Lib.hid (hb.out.ext inP.stays hx)
          go_wp2_with fail
          refine hK.out _ _ ⟨fun b o hb => hE14.out.below.cell (p := ⟨b, o, none⟩) hb, hE14.out⟩ (fun hHeld => ?_)
          clear hK K hx
          try simp only [Act.put, List.setIfInBounds_toArray, List.set_cons_zero, List.set_cons_succ]
          refine wpAnyH_ready (rs := [4]) (by kernel_rfl) (by simp) (AllReadyH.cons (o := ⟨some 30, _, _, _, _, _⟩) rfl (fun K hK => ?_) AllReadyH.nil)
          go_simp
          refine (hcw.out _ _ _ _ _ _ _ _ _ hs.out ha.out hb.out).mono ?_
          rintro e w15 ⟨rfl, he⟩
          have hE15 := Lib.hid (hE14.out.trans he)
          clear he
          go_wp2_with fail
          refine hK.out _ _ ⟨fun b o hb => hE15.out.below.cell (p := ⟨b, o, none⟩) hb, hE15.out⟩ (fun hHeld => ?_)
          clear hK K
          try simp only [Act.put, List.setIfInBounds_toArray, List.set_cons_zero, List.set_cons_succ]
          refine wpAnyH_take (i := 5) (oi := ⟨some 25, _, _, _, _, _⟩) (v := ?_) rfl (by kernel_rfl) (by kernel_rfl) (by kernel_rfl) (fun _ _ _ h => h) (Or.inl ⟨by rfl, ?_⟩) hHeld ?_
          rotate_left
          · intro w hSw; go_simp; try with_reducible rfl
          try simp only [Act.put, List.setIfInBounds_toArray, List.set_cons_zero, List.set_cons_succ]
          refine wpAnyH_take (i := 6) (oi := ⟨some 31, _, _, _, _, _⟩) (v := ?_) rfl (by kernel_rfl) (by kernel_rfl) (by kernel_rfl) (fun _ _ _ h => h) (Or.inl ⟨by rfl, ?_⟩) hHeld ?_
          rotate_left
          · intro w hSw; go_simp; try with_reducible rfl
          try simp only [Act.put, List.setIfInBounds_toArray, List.set_cons_zero, List.set_cons_succ]
          refine wpAnyH_take (i := 7) (oi := ⟨some 32, _, _, _, _, _⟩) (v := ?_) rfl (by kernel_rfl) (by kernel_rfl) (by kernel_rfl) (fun _ _ _ h => h) (Or.inl ⟨by rfl, ?_⟩) hHeld ?_
          rotate_left
          · intro w hSw; go_simp; try with_reducible rfl
          try simp only [Act.put, List.setIfInBounds_toArray, List.set_cons_zero, List.set_cons_succ]
          refine wpAnyH_take (i := 8) (oi := ⟨some 6, _, _, _, _, _⟩) (v := ?_) rfl (by kernel_rfl) (by kernel_rfl) (by kernel_rfl) (fun _ _ _ h => h) (Or.inl ⟨by rfl, ?_⟩) hHeld ?_
          rotate_left
          · intro w hSw; go_simp; try with_reducible rfl
          try simp only [Act.put, List.setIfInBounds_toArray, List.set_cons_zero, List.set_cons_succ]
          refine wpAnyH_take (i := 9) (oi := ⟨some 7, _, _, _, _, _⟩) (v := ?_) rfl (by kernel_rfl) (by kernel_rfl) (by kernel_rfl) (fun _ _ _ h => h) (Or.inl ⟨by rfl, ?_⟩) hHeld ?_
          rotate_left
          · intro w hSw; go_simp; try with_reducible rfl
          try simp only [Act.put, List.setIfInBounds_toArray, List.set_cons_zero, List.set_cons_succ]
          refine wpAnyH_done (by kernel_rfl) ?_ _
          go_wp2_with fail
          go_meet
          exact ⟨rfl, rfl, hE15.out⟩
        exact AllReadyH.nil
      exact AllReadyH.nil
    refine AllReadyH.cons (o := ⟨some 29, _, _, _, _, _⟩) rfl (fun K hK => ?_) ?_
    · go_simp
      have hx : Ext w1 (w1.alloc (.cells #[.int .i64 10005] 3)) := (Ext.refl _).alloc _
      have hb := Lib.hid (show RdL 1 inP (w1.alloc (.cells #[.int .i64 10005] 3)) (.slice (some ⟨w1.heap.size, 0, none⟩) 1 1) [10005] from rdInt_one (Blk.new _ _ _))
      have hE16 := Lib.hid (hE1.out.trans hx)
      refine hK.out _ _ ⟨fun b o hb => hE16.out.below.cell (p := ⟨b, o, none⟩) hb, hE16.out⟩ (fun hHeld => ?_)
      clear hK K hx
      generalize w1.alloc (.cells #[.int .i64 10005] 3) = w16 at *
      generalize w1.heap.size = gb at *
      try simp only [Act.put, List.setIfInBounds_toArray, List.set_cons_zero, List.set_cons_succ]
      refine wpAnyH_ready (rs := [0, 2]) (by kernel_rfl) (by simp) ?_
      refine AllReadyH.cons (o := ⟨some 26, _, _, _, _, _⟩) rfl (fun K hK => ?_) ?_
      · go_simp
        refine (hcs.out _).mono ?_
        rintro e w17 ⟨v1, v2, v3, v4, v5, v6, rfl, hs, hx⟩
        replace hs := Lib.hid hs
        have hE17 := Lib.hid (hE16.out.trans hx)
        replace hb := Lib.hid (hb.out.ext inP.stays hx)
        go_wp2_with fail
        refine hK.out _ _ ⟨fun b o hb => hE17.out.below.cell (p := ⟨b, o, none⟩) hb, hE17.out⟩ (fun hHeld => ?_)
        clear hK K hx
        try simp only [Act.put, List.setIfInBounds_toArray, List.set_cons_zero, List.set_cons_succ]
        refine wpAnyH_ready (rs := [2]) (by kernel_rfl) (by simp) ?_
        refine AllReadyH.cons (o := ⟨some 28, _, _, _, _, _⟩) rfl (fun K hK => ?_) ?_
        · go_simp
          have hx : Ext w17 (w17.alloc (.cells #[.string ⟨#[104, 101, 109]⟩, .slice (some ⟨w.heap.size, 0, none⟩) 1 1, .slice (some ⟨w.heap.size + 1, 0, none⟩) 1 1, .int .i64 5, .int .i64 5] 37)) := (Ext.refl _).alloc _
          have ha := Lib.hid (show RdL 5 pmP (w17.alloc (.cells #[.string ⟨#[104, 101, 109]⟩, .slice (some ⟨w.heap.size, 0, none⟩) 1 1, .slice (some ⟨w.heap.size + 1, 0, none⟩) 1 1, .int .i64 5, .int .i64 5] 37)) (.slice (some ⟨w17.heap.size, 0, none⟩) 1 1) [exPom] from rdPm_one (Blk.new _ _ _) (hpm.out.ext (hE17.out.trans hx)))
          have hE18 := Lib.hid (hE17.out.trans hx)
          replace hb := Lib.hid (hb.out.ext inP.stays hx)
          replace hs := Lib.hid (hs.out.ext hx)
          refine hK.out _ _ ⟨fun b o hb => hE18.out.below.cell (p := ⟨b, o, none⟩) hb, hE18.out⟩ (fun hHeld => ?_)
          clear hK K hx
          generalize w17.alloc (.cells #[.string ⟨#[104, 101, 109]⟩, .slice (some ⟨w.heap.size, 0, none⟩) 1 1, .slice (some ⟨w.heap.size + 1, 0, none⟩) 1 1, .int .i64 5, .int .i64 5] 37) = w18 at *
          generalize w17.heap.size = ga at *
          try simp only [Act.put, List.setIfInBounds_toArray, List.set_cons_zero, List.set_cons_succ]
          refine wpAnyH_ready (rs := [4]) (by kernel_rfl) (by simp) (AllReadyH.cons (o := ⟨some 30, _, _, _, _, _⟩) rfl (fun K hK => ?_) AllReadyH.nil)
          go_simp
          refine (hcw.out _ _ _ _ _ _ _ _ _ hs.out ha.out hb.out).mono ?_
          rintro e w19 ⟨rfl, he⟩
          have hE19 := Lib.hid (hE18.out.trans he)
          clear he
          go_wp2_with fail
          refine hK.out _ _ ⟨fun b o hb => hE19.out.below.cell (p := ⟨b, o, none⟩) hb, hE19.out⟩ (fun hHeld => ?_)
          clear hK K
          try simp only [Act.put, List.setIfInBounds_toArray, List.set_cons_zero, List.set_cons_succ]
          refine wpAnyH_take (i := 5) (oi := ⟨some 25, _, _, _, _, _⟩) (v := ?_) rfl (by kernel_rfl) (by kernel_rfl) (by kernel_rfl) (fun _ _ _ h => h) (Or.inl ⟨by rfl, ?_⟩) hHeld ?_
          rotate_left
          · intro w hSw; go_simp; try with_reducible rfl
          try simp only [Act.put, List.setIfInBounds_toArray, List.set_cons_zero, List.set_cons_succ]
          refine wpAnyH_take (i := 6) (oi := ⟨some 31, _, _, _, _, _⟩) (v := ?_) rfl (by kernel_rfl) (by kernel_rfl) (by kernel_rfl) (fun _ _ _ h => h) (Or.inl ⟨by rfl, ?_⟩) hHeld ?_
          rotate_left
          · intro w hSw; go_simp; try with_reducible rfl
          try simp only [Act.put, List.setIfInBounds_toArray, List.set_cons_zero, List.set_cons_succ]
          refine wpAnyH_take (i := 7) (oi := ⟨some 32, _, _, _, _, _⟩) (v := ?_) rfl (by kernel_rfl) (by kernel_rfl) (by kernel_rfl) (fun _ _ _ h => h) (Or.inl ⟨by rfl, ?_⟩) hHeld ?_
          rotate_left
          · intro w hSw; go_simp; try with_reducible rfl
          try simp only [Act.put, List.setIfInBounds_toArray, List.set_cons_zero, List.set_cons_succ]
          refine wpAnyH_take (i := 8) (oi := ⟨some 6, _, _, _, _, _⟩) (v := ?_) rfl (by kernel_rfl) (by kernel_rfl) (by kernel_rfl) (fun _ _ _ h => h) (Or.inl ⟨by rfl, ?_⟩) hHeld ?_
          rotate_left
          · intro w hSw; go_simp; try with_reducible rfl
          try simp only [Act.put, List.setIfInBounds_toArray, List.set_cons_zero, List.set_cons_succ]
          refine wpAnyH_take (i := 9) (oi := ⟨some 7, _, _, _, _, _⟩) (v := ?_) rfl (by kernel_rfl) (by kernel_rfl) (by kernel_rfl) (fun _ _ _ h => h) (Or.inl ⟨by rfl, ?_⟩) hHeld ?_
          rotate_left
          · intro w hSw; go_simp; try with_reducible rfl
          try simp only [Act.put, List.setIfInBounds_toArray, List.set_cons_zero, List.set_cons_succ]
          refine wpAnyH_done (by kernel_rfl) ?_ _
          go_wp2_with fail
          go_meet
          exact ⟨rfl, rfl, hE19.out⟩
        exact AllReadyH.nil
      refine AllReadyH.cons (o := ⟨some 28, _, _, _, _, _⟩) rfl (fun K hK => ?_) ?_
      · go_simp
        have hx : Ext w16 (w16.alloc (.cells #[.string ⟨#[104, 101, 109]⟩, .slice (some ⟨w.heap.size, 0, none⟩) 1 1, .slice (some ⟨w.heap.size + 1, 0, none⟩) 1 1, .int .i64 5, .int .i64 5] 37)) := (Ext.refl _).alloc _
        have ha := Lib.hid (show RdL 5 pmP (w16.alloc (.cells #[.string ⟨#[104, 101, 109]⟩, .slice (some ⟨w.heap.size, 0, none⟩) 1 1, .slice (some ⟨w.heap.size + 1, 0, none⟩) 1 1, .int .i64 5, .int .i64 5] 37)) (.slice (some ⟨w16.heap.size, 0, none⟩) 1 1) [exPom] from rdPm_one (Blk.new _ _ _) (hpm.out.ext (hE16.out.trans hx)))
        have hE20 := Lib.hid (hE16.out.trans hx)
        replace hb := Lib.hid (hb.out.ext inP.stays hx)
        refine hK.out _ _ ⟨fun b o hb => hE20.out.below.cell (p := ⟨b, o, none⟩) hb, hE20.out⟩ (fun hHeld => ?_)
        clear hK K hx
        generalize w16.alloc (.cells #[.string ⟨#[104, 101, 109]⟩, .slice (some ⟨w.heap.size, 0, none⟩) 1 1, .slice (some ⟨w.heap.size + 1, 0, none⟩) 1 1, .int .i64 5, .int .i64 5] 37) = w20 at *
        generalize w16.heap.size = ga at *
        try simp only [Act.put, List.setIfInBounds_toArray, List.set_cons_zero, List.set_cons_succ]
        refine wpAnyH_ready (rs := [0]) (by kernel_rfl) (by simp) ?_
        refine AllReadyH.cons (o := ⟨some 26, _, _, _, _, _⟩) rfl (fun K hK => ?_) ?_
        · go_simp
          refine (hcs.out _).mono ?_
          rintro e w21 ⟨v1, v2, v3, v4, v5, v6, rfl, hs, hx⟩
          replace hs := Lib.hid hs
          have hE21 := Lib.hid (hE20.out.trans hx)
          replace hb := Lib.hid (hb.out.ext inP.stays hx)
          replace ha := Lib.hid (ha.out.ext pmP.stays hx)
          go_wp2_with fail
          refine hK.out _ _ ⟨fun b o hb => hE21.out.below.cell (p := ⟨b, o, none⟩) hb, hE21.out⟩ (fun hHeld => ?_)
          clear hK K hx
          try simp only [Act.put, List.setIfInBounds_toArray, List.set_cons_zero, List.set_cons_succ]
          refine wpAnyH_ready (rs := [4]) (by kernel_rfl) (by simp) (AllReadyH.cons (o := ⟨some 30, _, _, _, _, _⟩) rfl (fun K hK => ?_) AllReadyH.nil)
          go_simp
          refine (hcw.out _ _ _ _ _ _ _ _ _ hs.out ha.out hb.out).mono ?_
          rintro e w22 ⟨rfl, he⟩
          have hE22 := Lib.hid (hE21.out.trans he)
          clear he
          go_wp2_with fail
          refine hK.out _ _ ⟨fun b o hb => hE22.out.below.cell (p := ⟨b, o, none⟩) hb, hE22.out⟩ (fun hHeld => ?_)
          clear hK K
          try simp only [Act.put, List.setIfInBounds_toArray, List.set_cons_zero, List.set_cons_succ]
          refine wpAnyH_take (i := 5) (oi := ⟨some 25, _, _, _, _, _⟩) (v := ?_) rfl (by kernel_rfl) (by kernel_rfl) (by kernel_rfl) (fun _ _ _ h => h) (Or.inl ⟨by rfl, ?_⟩) hHeld ?_
          rotate_left
          · intro w hSw; go_simp; try with_reducible rfl
          try simp only [Act.put, List.setIfInBounds_toArray, List.set_cons_zero, List.set_cons_succ]
          refine wpAnyH_take (i := 6) (oi := ⟨some 31, _, _, _, _, _⟩) (v := ?_) rfl (by kernel_rfl) (by kernel_rfl) (by kernel_rfl) (fun _ _ _ h => h) (Or.inl ⟨by rfl, ?_⟩) hHeld ?_
          rotate_left
          · intro w hSw; go_simp; try with_reducible rfl
          try simp only [Act.put, List.setIfInBounds_toArray, List.set_cons_zero, List.set_cons_succ]
          refine wpAnyH_take (i := 7) (oi := ⟨some 32, _, _, _, _, _⟩) (v := ?_) rfl (by kernel_rfl) (by kernel_rfl) (by kernel_rfl) (fun _ _ _ h => h) (Or.inl ⟨by rfl, ?_⟩) hHeld ?_
          rotate_left
          · intro w hSw; go_simp; try with_reducible rfl
          try simp only [Act.put, List.setIfInBounds_toArray, List.set_cons_zero, List.set_cons_succ]
          refine wpAnyH_take (i := 8) (oi := ⟨some 6, _, _, _, _, _⟩) (v := ?_) rfl (by kernel_rfl) (by kernel_rfl) (by kernel_rfl) (fun _ _ _ h => h) (Or.inl ⟨by rfl, ?_⟩) hHeld ?_
          rotate_left
          · intro w hSw; go_simp; try with_reducible rfl
          try simp only [Act.put, List.setIfInBounds_toArray, List.set_cons_zero, List.set_cons_succ]
          refine wpAnyH_take (i := 9) (oi := ⟨some 7, _, _, _, _, _⟩) (v := ?_) rfl (by kernel_rfl) (by kernel_rfl) (by kernel_rfl) (fun _ _ _ h => h) (Or.inl ⟨by rfl, ?_⟩) hHeld ?_
          rotate_left
          · intro w hSw; go_simp; try with_reducible rfl
          try simp only [Act.put, List.setIfInBounds_toArray, List.set_cons_zero, List.set_cons_succ]
          refine wpAnyH_done (by kernel_rfl) ?_ _
          go_wp2_with fail
          go_meet
          exact ⟨rfl, rfl, hE22.out⟩
        exact AllReadyH.nil
      exact AllReadyH.nil
    exact AllReadyH.nil
  case rest =>
    obtain ⟨rfl, rfl, hx⟩ := hcut
    replace hpm := Lib.hid (hpm.out.ext hx)
    replace hV5 := Lib.hid (hV5.out.ext hx)
    replace hX5 := Lib.hid (hX5.out.trans hx)
    clear p0 p1 p2 p3 p4 lP hx hcw
    go_wp2_with fail
    obtain ⟨wT, hwT⟩ : ∃ wT, wT = wc := ⟨_, rfl⟩
    rw [← hwT] at hpm hV5 hX5 ⊢
    clear hwT
    obtain ⟨p0, p1, p2, p3, p4⟩ := hV5.out.parts5
    have lP := hV5.out.lt
    go_cut [8, 9] from 10 (fun s8 s9 wc => ∃ g, s8 = .slice (some ⟨g, 0, none⟩) 1 1 ∧ Blk wc g 3 #[.int .i64 (-5)] ∧ s9 = .int .i64 0 ∧ Ext wT wc)
    case first =>
      refine wp_region_held_drew (S := fun w' => (∀ b o, b < wT.heap.size → w'.cell? ⟨b, o, none⟩ = wT.cell? ⟨b, o, none⟩) ∧ Ext wT w') (by kernel_rfl) ⟨fun b o hb => rfl, (Ext.refl wT).drew⟩ (fun hHeld => ?_)
      refine wpAnyH_take (i := 1) (oi := ⟨some 35, _, _, _, _, _⟩) (v := ?_) rfl (by kernel_rfl) (by kernel_rfl) (by kernel_rfl) (fun _ _ _ h => h) (Or.inl ⟨by rfl, ?_⟩) hHeld ?_
      rotate_left
      · intro w hSw; go_simp; try with_reducible rfl
      try simp only [Act.put, List.setIfInBounds_toArray, List.set_cons_zero, List.set_cons_succ]
      have hE23 := Lib.hid hHeld.2
      clear p0 p1 p2 p3 p4 lP
      generalize wT.drew = w23 at hHeld hE23 ⊢
      refine wpAnyH_ready (rs := [0, 2, 3]) (by kernel_rfl) (by simp) ?_
      refine AllReadyH.cons (o := ⟨some 34, _, _, _, _, _⟩) rfl (fun K hK => ?_) ?_
      · go_simp
        refine (hcs.out _).mono ?_
        rintro e w24 ⟨v1, v2, v3, v4, v5, v6, rfl, hs, hx⟩
        replace hs := Lib.hid hs
        have hE24 := Lib.hid (hE23.out.trans hx)
        go_wp2_with fail
        refine hK.out _ _ ⟨fun b o hb => hE24.out.below.cell (p := ⟨b, o, none⟩) hb, hE24.out⟩ (fun hHeld => ?_)
        clear hK K hx
        try simp only [Act.put, List.setIfInBounds_toArray, List.set_cons_zero, List.set_cons_succ]
        refine wpAnyH_ready (rs := [2, 3]) (by kernel_rfl) (by simp) ?_
        refine AllReadyH.cons (o := ⟨some 36, _, _, _, _, _⟩) rfl (fun K hK => ?_) ?_
        · go_simp
          have hx : Ext w24 (w24.alloc (.cells #[.string ⟨#[104, 101, 109]⟩, .slice (some ⟨w.heap.size, 0, none⟩) 1 1, .slice (some ⟨w.heap.size + 1, 0, none⟩) 1 1, .int .i64 5, .int .i64 5] 37)) := (Ext.refl _).alloc _
          have ha := Lib.hid (show RdL 5 pmP (w24.alloc (.cells #[.string ⟨#[104, 101, 109]⟩, .slice (some ⟨w.heap.size, 0, none⟩) 1 1, .slice (some ⟨w.heap.size + 1, 0, none⟩) 1 1, .int .i64 5, .int .i64 5] 37)) (.slice (some ⟨w24.heap.size, 0, none⟩) 1 1) [exPom] from rdPm_one (Blk.new _ _ _) (hpm.out.ext (hE24.out.trans hx)))
          have hE25 := Lib.hid (hE24.out.trans hx)
          replace hs := Lib.hid (hs.out.ext hx)
          refine hK.out _ _ ⟨fun b o hb => hE25.out.below.cell (p := ⟨b, o, none⟩) hb, hE25.out⟩ (fun hHeld => ?_)
          clear hK K hx
          generalize w24.alloc (.cells #[.string ⟨#[104, 101, 109]⟩, .slice (some ⟨w.heap.size, 0, none⟩) 1 1, .slice (some ⟨w.heap.size + 1, 0, none⟩) 1 1, .int .i64 5, .int .i64 5] 37) = w25 at *
          generalize w24.heap.size = ga at *
          try simp only [Act.put, List.setIfInBounds_toArray, List.set_cons_zero, List.set_cons_succ]
          refine wpAnyH_ready (rs := [3]) (by kernel_rfl) (by simp) ?_
          refine AllReadyH.cons (o := ⟨some 37, _, _, _, _, _⟩) rfl (fun K hK => ?_) ?_
          · go_simp
            have hx : Ext w25 (w25.alloc (.cells #[.int .i64 9990] 3)) := (Ext.refl _).alloc _
            have hb := Lib.hid (show RdL 1 inP (w25.alloc (.cells #[.int .i64 9990] 3)) (.slice (some ⟨w25.heap.size, 0, none⟩) 1 1) [9990] from rdInt_one (Blk.new _ _ _))
            have hE26 := Lib.hid (hE25.out.trans hx)
            replace hs := Lib.hid (hs.out.ext hx)
            replace ha := Lib.hid (ha.out.ext pmP.stays hx)
            refine hK.out _ _ ⟨fun b o hb => hE26.out.below.cell (p := ⟨b, o, none⟩) hb, hE26.out⟩ (fun hHeld => ?_)
            clear hK K hx
            generalize w25.alloc (.cells #[.int .i64 9990] 3) = w26 at *
            generalize w25.heap.size = gb at *
            try simp only [Act.put, List.setIfInBounds_toArray, List.set_cons_zero, List.set_cons_succ]
            refine wpAnyH_ready (rs := [4]) (by kernel_rfl) (by simp) (AllReadyH.cons (o := ⟨some 38, _, _, _, _, _⟩) rfl (fun K hK => ?_) AllReadyH.nil)
            go_simp
            refine (hcj.out _ _ _ _ _ _ _ _ _ hs.out ha.out hb.out).mono ?_
            rintro e w27 ⟨g, rfl, hj, he⟩
            have hE27 := Lib.hid (hE26.out.trans he)
            clear he
            go_wp2_with fail
            refine hK.out _ _ ⟨fun b o hb => hE27.out.below.cell (p := ⟨b, o, none⟩) hb, hE27.out⟩ (fun hHeld => ?_)
            clear hK K
            try simp only [Act.put, List.setIfInBounds_toArray, List.set_cons_zero, List.set_cons_succ]
            refine wpAnyH_take (i := 5) (oi := ⟨some 33, _, _, _, _, _⟩) (v := ?_) rfl (by kernel_rfl) (by kernel_rfl) (by kernel_rfl) (fun _ _ _ h => h) (Or.inl ⟨by rfl, ?_⟩) hHeld ?_
            rotate_left
            · intro w hSw; go_simp; try with_reducible rfl
            try simp only [Act.put, List.setIfInBounds_toArray, List.set_cons_zero, List.set_cons_succ]
            refine wpAnyH_take (i := 6) (oi := ⟨some 39, _, _, _, _, _⟩) (v := ?_) rfl (by kernel_rfl) (by kernel_rfl) (by kernel_rfl) (fun _ _ _ h => h) (Or.inl ⟨by rfl, ?_⟩) hHeld ?_
            rotate_left
            · intro w hSw; go_simp; try with_reducible rfl
            try simp only [Act.put, List.setIfInBounds_toArray, List.set_cons_zero, List.set_cons_succ]
            refine wpAnyH_take (i := 7) (oi := ⟨some 40, _, _, _, _, _⟩) (v := ?_) rfl (by kernel_rfl) (by kernel_rfl) (by kernel_rfl) (fun _ _ _ h => h) (Or.inl ⟨by rfl, ?_⟩) hHeld ?_
            rotate_left
            · intro w hSw; go_simp; try with_reducible rfl
            try simp only [Act.put, List.setIfInBounds_toArray, List.set_cons_zero, List.set_cons_succ]
            refine wpAnyH_take (i := 8) (oi := ⟨some 8, _, _, _, _, _⟩) (v := ?_) rfl (by kernel_rfl) (by kernel_rfl) (by kernel_rfl) (fun _ _ _ h => h) (Or.inl ⟨by rfl, ?_⟩) hHeld ?_
            rotate_left
            · intro w hSw; go_simp; try with_reducible rfl
            try simp only [Act.put, List.setIfInBounds_toArray, List.set_cons_zero, List.set_cons_succ]
            refine wpAnyH_take (i := 9) (oi := ⟨some 9, _, _, _, _, _⟩) (v := ?_) rfl (by kernel_rfl) (by kernel_rfl) (by kernel_rfl) (fun _ _ _ h => h) (Or.inl ⟨by rfl, ?_⟩) hHeld ?_
            rotate_left
            · intro w hSw; go_simp; try with_reducible rfl
            try simp only [Act.put, List.setIfInBounds_toArray, List.set_cons_zero, List.set_cons_succ]
            refine wpAnyH_done (by kernel_rfl) ?_ _
            go_wp2_with fail
            go_meet
            exact ⟨_, rfl, hj, rfl, hE27.out⟩
          exact AllReadyH.nil
        refine AllReadyH.cons (o := ⟨some 37, _, _, _, _, _⟩) rfl (fun K hK => ?_) ?_
        · go_simp
          have hx : Ext w24 (w24.alloc (.cells #[.int .i64 9990] 3)) := (Ext.refl _).alloc _
          have hb := Lib.hid (show RdL 1 inP (w24.alloc (.cells #[.int .i64 9990] 3)) (.slice (some ⟨w24.heap.size, 0, none⟩) 1 1) [9990] from rdInt_one (Blk.new _ _ _))
          have hE28 := Lib.hid (hE24.out.trans hx)
          replace hs := Lib.hid (hs.out.ext hx)
          refine hK.out _ _ ⟨fun b o hb => hE28.out.below.cell (p := ⟨b, o, none⟩) hb, hE28.out⟩ (fun hHeld => ?_)
          clear hK K hx
          generalize w24.alloc (.cells #[.int .i64 9990] 3) = w28 at *
          generalize w24.heap.size = gb at *
          try simp only [Act.put, List.setIfInBounds_toArray, List.set_cons_zero, List.set_cons_succ]
          refine wpAnyH_ready (rs := [2]) (by kernel_rfl) (by simp) ?_
          refine AllReadyH.cons (o := ⟨some 36, _, _, _, _, _⟩) rfl (fun K hK => ?_) ?_
          · go_simp
            have hx : Ext w28 (w28.alloc (.cells #[.string ⟨#[104, 101, 109]⟩, .slice (some ⟨w.heap.size, 0, none⟩) 1 1, .slice (some ⟨w.heap.size + 1, 0, none⟩) 1 1, .int .i64 5, .int .i64 5] 37)) := (Ext.refl _).alloc _
            have ha := Lib.hid (show RdL 5 pmP (w28.alloc (.cells #[.string ⟨#[104, 101, 109]⟩, .slice (some ⟨w.heap.size, 0, none⟩) 1 1, .slice (some ⟨w.heap.size + 1, 0, none⟩) 1 1, .int .i64 5, .int .i64 5] 37)) (.slice (some ⟨w28.heap.size, 0, none⟩) 1 1) [exPom] from rdPm_one (Blk.new _ _ _) (hpm.out.ext (hE28.out.trans hx)))
            have hE29 := Lib.hid (hE28.out.trans hx)
            replace hs := Lib.hid (hs.out.ext hx)
            replace hb := Lib.hid (hb.out.ext inP.stays hx)
            refine hK.out _ _ ⟨fun b o hb => hE29.out.below.cell (p := ⟨b, o, none⟩) hb, hE29.out⟩ (fun hHeld => ?_)
            clear hK K hx
            generalize w28.alloc (.cells #[.string ⟨#[104, 101, 109]⟩, .slice (some ⟨w.heap.size, 0, none⟩) 1 1, .slice (some ⟨w.heap.size + 1, 0, none⟩) 1 1, .int .i64 5, .int .i64 5] 37) = w29 at *
            generalize w28.heap.size = ga at *
            try simp only [Act.put, List.setIfInBounds_toArray, List.set_cons_zero, List.set_cons_succ]
            refine wpAnyH_ready (rs := [4]) (by kernel_rfl) (by simp) (AllReadyH.cons (o := ⟨some 38, _, _, _, _, _⟩) rfl (fun K hK => ?_) AllReadyH.nil)
            go_simp
            refine (hcj.out _ _ _ _ _ _ _ _ _ hs.out ha.out hb.out).mono ?_
            rintro e w30 ⟨g, rfl, hj, he⟩
            have hE30 := Lib.hid (hE29.out.trans he)
            clear he
            go_wp2_with fail
            refine hK.out _ _ ⟨fun b o hb => hE30.out.below.cell (p := ⟨b, o, none⟩) hb, hE30.out⟩ (fun hHeld => ?_)
            clear hK K
            try simp only [Act.put, List.setIfInBounds_toArray, List.set_cons_zero, List.set_cons_succ]
            refine wpAnyH_take (i := 5) (oi := ⟨some 33, _, _, _, _, _⟩) (v := ?_) rfl (by kernel_rfl) (by kernel_rfl) (by kernel_rfl) (fun _ _ _ h => h) (Or.inl ⟨by rfl, ?_⟩) hHeld ?_
            rotate_left
            · intro w hSw; go_simp; try with_reducible rfl
            try simp only [Act.put, List.setIfInBounds_toArray, List.set_cons_zero, List.set_cons_succ]
            refine wpAnyH_take (i := 6) (oi := ⟨some 39, _, _, _, _, _⟩) (v := ?_) rfl (by kernel_rfl) (by kernel_rfl) (by kernel_rfl) (fun _ _ _ h => h) (Or.inl ⟨by rfl, ?_⟩) hHeld ?_
            rotate_left
            · intro w hSw; go_simp; try with_reducible rfl
            try simp only [Act.put, List.setIfInBounds_toArray, List.set_cons_zero, List.set_cons_succ]
            refine wpAnyH_take (i := 7) (oi := ⟨some 40, _, _, _, _, _⟩) (v := ?_) rfl (by kernel_rfl) (by kernel_rfl) (by kernel_rfl) (fun _ _ _ h => h) (Or.inl ⟨by rfl, ?_⟩) hHeld ?_
            rotate_left
            · intro w hSw; go_simp; try with_reducible rfl
            try simp only [Act.put, List.setIfInBounds_toArray, List.set_cons_zero, List.set_cons_succ]
            refine wpAnyH_take (i := 8) (oi := ⟨some 8, _, _, _, _, _⟩) (v := ?_) rfl (by kernel_rfl) (by kernel_rfl) (by kernel_rfl) (fun _ _ _ h => h) (Or.inl ⟨by rfl, ?_⟩) hHeld ?_
            rotate_left
            · intro w hSw; go_simp; try with_reducible rfl
            try simp only [Act.put, List.setIfInBounds_toArray, List.set_cons_zero, List.set_cons_succ]
            refine wpAnyH_take (i := 9) (oi := ⟨some 9, _, _, _, _, _⟩) (v := ?_) rfl (by kernel_rfl) (by kernel_rfl) (by kernel_rfl) (fun _ _ _ h => h) (Or.inl ⟨by rfl, ?_⟩) hHeld ?_
            rotate_left
            · intro w hSw; go_simp; try with_reducible rfl
            try simp only [Act.put, List.setIfInBounds_toArray, List.set_cons_zero, List.set_cons_succ]
            refine wpAnyH_done (by kernel_rfl) ?_ _
            go_wp2_with fail
            go_meet
            exact ⟨_, rfl, hj, rfl, hE30.out⟩
          exact AllReadyH.nil
        exact AllReadyH.nil
      refine AllReadyH.cons (o := ⟨some 36, _, _, _, _, _⟩) rfl (fun K hK => ?_) ?_
      · go_simp
        have hx : Ext w23 (w23.alloc (.cells #[.string ⟨#[104, 101, 109]⟩, .slice (some ⟨w.heap.size, 0, none⟩) 1 1, .slice (some ⟨w.heap.size + 1, 0, none⟩) 1 1, .int .i64 5, .int .i64 5] 37)) := (Ext.refl _).alloc _
        have ha := Lib.hid (show RdL 5 pmP (w23.alloc (.cells #[.string ⟨#[104, 101, 109]⟩, .slice (some ⟨w.heap.size, 0, none⟩) 1 1, .slice (some ⟨w.heap.size + 1, 0, none⟩) 1 1, .int .i64 5, .int .i64 5] 37)) (.slice (some ⟨w23.heap.size, 0, none⟩) 1 1) [exPom] from rdPm_one (Blk.new _ _ _) (hpm.out.ext (hE23.out.trans hx)))
        have hE31 := Lib.hid (hE23.out.trans hx)
        refine hK.out _ _ ⟨fun b o hb => hE31.out.below.cell (p := ⟨b, o, none⟩) hb, hE31.out⟩ (fun hHeld => ?_)
        clear hK K hx
        generalize w23.alloc (.cells #[.string ⟨#[104, 101, 109]⟩, .slice (some ⟨w.heap.size, 0, none⟩) 1 1, .slice (some ⟨w.heap.size + 1, 0, none⟩) 1 1, .int .i64 5, .int .i64 5] 37) = w31 at *
        generalize w23.heap.size = ga at *
        try simp only [Act.put, List.setIfInBounds_toArray, List.set_cons_zero, List.set_cons_succ]
        refine wpAnyH_ready (rs := [0, 3]) (by kernel_rfl) (by simp) ?_
        refine AllReadyH.cons (o := ⟨some 34, _, _, _, _, _⟩) rfl (fun K hK => ?_) ?_
        · go_simp
          refine (hcs.out _).mono ?_
          rintro e w32 ⟨v1, v2, v3, v4, v5, v6, rfl, hs, hx⟩
          replace hs := Lib.hid hs
          have hE32 := Lib.hid (hE31.out.trans hx)
          replace ha := Lib.hid (ha.out.ext pmP.stays hx)
          go_wp2_with fail
          refine hK.out _ _ ⟨fun b o hb => hE32.out.below.cell (p := ⟨b, o, none⟩) hb, hE32.out⟩ (fun hHeld => ?_)
          clear hK K hx
          try simp only [Act.put, List.setIfInBounds_toArray, List.set_cons_zero, List.set_cons_succ]
          refine wpAnyH_ready (rs := [3]) (by kernel_rfl) (by simp) ?_
          refine AllReadyH.cons (o := ⟨some 37, _, _, _, _, _⟩) rfl (fun K hK => ?_) ?_
          · go_simp
            have hx : Ext w32 (w32.alloc (.cells #[.int .i64 9990] 3)) := (Ext.refl _).alloc _
            have hb := Lib.hid (show RdL 1 inP (w32.alloc (.cells #[.int .i64 9990] 3)) (.slice (some ⟨w32.heap.size, 0, none⟩) 1 1) [9990] from rdInt_one (Blk.new _ _ _))
            have hE33 := Lib.hid (hE32.out.trans hx)
            replace ha := Lib.hid (ha.out.ext pmP.stays hx)
            replace hs := Lib.hid (hs.out.ext hx)
            refine hK.out _ _ ⟨fun b o hb => hE33.out.below.cell (p := ⟨b, o, none⟩) hb, hE33.out⟩ (fun hHeld => ?_)
            clear hK K hx
            generalize w32.alloc (.cells #[.int .i64 9990] 3) = w33 at *
            generalize w32.heap.size = gb at *
            try simp only [Act.put, List.setIfInBounds_toArray, List.set_cons_zero, List.set_cons_succ]
            refine wpAnyH_ready (rs := [4]) (by kernel_rfl) (by simp) (AllReadyH.cons (o := ⟨some 38, _, _, _, _, _⟩) rfl (fun K hK => ?_) AllReadyH.nil)
            go_simp
            refine (hcj.out _ _ _ _ _ _ _ _ _ hs.out ha.out hb.out).mono ?_
            rintro e w34 ⟨g, rfl, hj, he⟩
            have hE34 := Lib.hid (hE33.out.trans he)
            clear he
            go_wp2_with fail
            refine hK.out _ _ ⟨fun b o hb => hE34.out.below.cell (p := ⟨b, o, none⟩) hb, hE34.out⟩ (fun hHeld => ?_)
            clear hK K
            try simp only [Act.put, List.setIfInBounds_toArray, List.set_cons_zero, List.set_cons_succ]
            refine wpAnyH_take (i := 5) (oi := ⟨some 33, _, _, _, _, _⟩) (v := ?_) rfl (by kernel_rfl) (by kernel_rfl) (by kernel_rfl) (fun _ _ _ h => h) (Or.inl ⟨by rfl, ?_⟩) hHeld ?_
            rotate_left
            · intro w hSw; go_simp; try with_reducible rfl
            try simp only [Act.put, List.setIfInBounds_toArray, List.set_cons_zero, List.set_cons_succ]
            refine wpAnyH_take (i := 6) (oi := ⟨some 39, _, _, _, _, _⟩) (v := ?_) rfl (by kernel_rfl) (by kernel_rfl) (by kernel_rfl) (fun _ _ _ h => h) (Or.inl ⟨by rfl, ?_⟩) hHeld ?_
            rotate_left
            · intro w hSw; go_simp; try with_reducible rfl
            try simp only [Act.put, List.setIfInBounds_toArray, List.set_cons_zero, List.set_cons_succ]
            refine wpAnyH_take (i := 7) (oi := ⟨some 40, _, _, _, _, _⟩) (v := ?_) rfl (by kernel_rfl) (by kernel_rfl) (by kernel_rfl) (fun _ _ _ h => h) (Or.inl ⟨by rfl, ?_⟩) hHeld ?_
            rotate_left
            · intro w hSw; go_simp; try with_reducible rfl
            try simp only [Act.put, List.setIfInBounds_toArray, List.set_cons_zero, List.set_cons_succ]
            refine wpAnyH_take (i := 8) (oi := ⟨some 8, _, _, _, _, _⟩) (v := ?_) rfl (by kernel_rfl) (by kernel_rfl) (by kernel_rfl) (fun _ _ _ h => h) (Or.inl ⟨by rfl, ?_⟩) hHeld ?_
            rotate_left
            · intro w hSw; go_simp; try with_reducible rfl
            try simp only [Act.put, List.setIfInBounds_toArray, List.set_cons_zero, List.set_cons_succ]
            refine wpAnyH_take (i := 9) (oi := ⟨some 9, _, _, _, _, _⟩) (v := ?_) rfl (by kernel_rfl) (by kernel_rfl) (by kernel_rfl) (fun _ _ _ h => h) (Or.inl ⟨by rfl, ?_⟩) hHeld ?_
            rotate_left
            · intro w hSw; go_simp; try with_reducible rfl
            try simp only [Act.put, List.setIfInBounds_toArray, List.set_cons_zero, List.set_cons_succ]
            refine wpAnyH_done (by kernel_rfl) ?_ _
            go_wp2_with fail
            go_meet
            exact ⟨_, rfl, hj, rfl, hE34.out⟩
          exact AllReadyH.nil
        refine AllReadyH.cons (o := ⟨some 37, _, _, _, _, _⟩) rfl (fun K hK => ?_) ?_
        · go_simp
          have hx : Ext w31 (w31.alloc (.cells #[.int .i64 9990] 3)) := (Ext.refl _).alloc _
          have hb := Lib.hid (show RdL 1 inP (w31.alloc (.cells #[.int .i64 9990] 3)) (.slice (some ⟨w31.heap.size, 0, none⟩) 1 1) [9990] from rdInt_one (Blk.new _ _ _))
          have hE35 := Lib.hid (hE31.out.trans hx)
          replace ha := Lib.hid (ha.out.ext pmP.stays hx)
          refine hK.out _ _ ⟨fun b o hb => hE35.out.below.cell (p := ⟨b, o, none⟩) hb, hE35.out⟩ (fun hHeld => ?_)
          clear hK K hx
          generalize w31.alloc (.cells #[.int .i64 9990] 3) = w35 at *
          generalize w31.heap.size = gb at *
          try simp only [Act.put, List.setIfInBounds_toArray, List.set_cons_zero, List.set_cons_succ]
          refine wpAnyH_ready (rs := [0]) (by kernel_rfl) (by simp) ?_
          refine AllReadyH.cons (o := ⟨some 34, _, _, _, _, _⟩) rfl (fun K hK => ?_) ?_
          · go_simp
            refine (hcs.out _).mono ?_
            rintro e w36 ⟨v1, v2, v3, v4, v5, v6, rfl, hs, hx⟩
            replace hs := Lib.hid hs
            have hE36 := Lib.hid (hE35.out.trans hx)
            replace ha := Lib.hid (ha.out.ext pmP.stays hx)
            replace hb := Lib.hid (hb.out.ext inP.stays hx)
            go_wp2_with fail
            refine hK.out _ _ ⟨fun b o hb => hE36.out.below.cell (p := ⟨b, o, none⟩) hb, hE36.out⟩ (fun hHeld => ?_)
            clear hK K hx
            try simp only [Act.put, List.setIfInBounds_toArray, List.set_cons_zero, List.set_cons_succ]
            refine wpAnyH_ready (rs := [4]) (by kernel_rfl) (by simp) (AllReadyH.cons (o := ⟨some 38, _, _, _, _, _⟩) rfl (fun K hK => ?_) AllReadyH.nil)
            go_simp
            refine (hcj.out _ _ _ _ _ _ _ _ _ hs.out ha.out hb.out).mono ?_
            rintro e w37 ⟨g, rfl, hj, he⟩
            have hE37 := Lib.hid (hE36.out.trans he)
            clear he
            go_wp2_with fail
            refine hK.out _ _ ⟨fun b o hb => hE37.out.below.cell (p := ⟨b, o, none⟩) hb, hE37.out⟩ (fun hHeld => ?_)
            clear hK K
            try simp only [Act.put, List.setIfInBounds_toArray, List.set_cons_zero, List.set_cons_succ]
            refine wpAnyH_take (i := 5) (oi := ⟨some 33, _, _, _, _, _⟩) (v := ?_) rfl (by kernel_rfl) (by kernel_rfl) (by kernel_rfl) (fun _ _ _ h => h) (Or.inl ⟨by rfl, ?_⟩) hHeld ?_
            rotate_left
            · intro w hSw; go_simp; try with_reducible rfl
            try simp only [Act.put, List.setIfInBounds_toArray, List.set_cons_zero, List.set_cons_succ]
            refine wpAnyH_take (i := 6) (oi := ⟨some 39, _, _, _, _, _⟩) (v := ?_) rfl (by kernel_rfl) (by kernel_rfl) (by kernel_rfl) (fun _ _ _ h => h) (Or.inl ⟨by rfl, ?_⟩) hHeld ?_
            rotate_left
            · intro w hSw; go_simp; try with_reducible rfl
            try simp only [Act.put, List.setIfInBounds_toArray, List.set_cons_zero, List.set_cons_succ]
            refine wpAnyH_take (i := 7) (oi := ⟨some 40, _, _, _, _, _⟩) (v := ?_) rfl (by kernel_rfl) (by kernel_rfl) (by kernel_rfl) (fun _ _ _ h => h) (Or.inl ⟨by rfl, ?_⟩) hHeld ?_
            rotate_left
            · intro w hSw; go_simp; try with_reducible rfl
            try simp only [Act.put, List.setIfInBounds_toArray, List.set_cons_zero, List.set_cons_succ]
            refine wpAnyH_take (i := 8) (oi := ⟨some 8, _, _, _, _, _⟩) (v := ?_) rfl (by kernel_rfl) (by kernel_rfl) (by kernel_rfl) (fun _ _ _ h => h) (Or.inl ⟨by rfl, ?_⟩) hHeld ?_
            rotate_left
            · intro w hSw; go_simp; try with_reducible rfl
            try simp only [Act.put, List.setIfInBounds_toArray, List.set_cons_zero, List.set_cons_succ]
            refine wpAnyH_take (i := 9) (oi := ⟨some 9, _, _, _, _, _⟩) (v := ?_) rfl (by kernel_rfl) (by kernel_rfl) (by kernel_rfl) (fun _ _ _ h => h) (Or.inl ⟨by rfl, ?_⟩) hHeld ?_
            rotate_left
            · intro w hSw; go_simp; try with_reducible rfl
            try simp only [Act.put, List.setIfInBounds_toArray, List.set_cons_zero, List.set_cons_succ]
            refine wpAnyH_done (by kernel_rfl) ?_ _
            go_wp2_with fail
            go_meet
            exact ⟨_, rfl, hj, rfl, hE37.out⟩
          exact AllReadyH.nil
        exact AllReadyH.nil
      refine AllReadyH.cons (o := ⟨some 37, _, _, _, _, _⟩) rfl (fun K hK => ?_) ?_
      · go_simp
        have hx : Ext w23 (w23.alloc (.cells #[.int .i64 9990] 3)) := (Ext.refl _).alloc _
        have hb := Lib.hid (show RdL 1 inP (w23.alloc (.cells #[.int .i64 9990] 3)) (.slice (some ⟨w23.heap.size, 0, none⟩) 1 1) [9990] from rdInt_one (Blk.new _ _ _))
        have hE38 := Lib.hid (hE23.out.trans hx)
        refine hK.out _ _ ⟨fun b o hb => hE38.out.below.cell (p := ⟨b, o, none⟩) hb, hE38.out⟩ (fun hHeld => ?_)
        clear hK K hx
        generalize w23.alloc (.cells #[.int .i64 9990] 3) = w38 at *
        generalize w23.heap.size = gb at *
        try simp only [Act.put, List.setIfInBounds_toArray, List.set_cons_zero, List.set_cons_succ]
        refine wpAnyH_ready (rs := [0, 2]) (by kernel_rfl) (by simp) ?_
        refine AllReadyH.cons (o := ⟨some 34, _, _, _, _, _⟩) rfl (fun K hK => ?_) ?_
        · go_simp
          refine (hcs.out _).mono ?_
          rintro e w39 ⟨v1, v2, v3, v4, v5, v6, rfl, hs, hx⟩
          replace hs := Lib.hid hs
          have hE39 := Lib.hid (hE38.out.trans hx)
          replace hb := Lib.hid (hb.out.ext inP.stays hx)
          go_wp2_with fail
          refine hK.out _ _ ⟨fun b o hb => hE39.out.below.cell (p := ⟨b, o, none⟩) hb, hE39.out⟩ (fun hHeld => ?_)
          clear hK K hx
          try simp only [Act.put, List.setIfInBounds_toArray, List.set_cons_zero, List.set_cons_succ]
          refine wpAnyH_ready (rs := [2]) (by kernel_rfl) (by simp) ?_
          refine AllReadyH.cons (o := ⟨some 36, _, _, _, _, _⟩) rfl (fun K hK => ?_) ?_
          · go_simp
            have hx : Ext w39 (w39.alloc (.cells #[.string ⟨#[104, 101, 109]⟩, .slice (some ⟨w.heap.size, 0, none⟩) 1 1, .slice (some ⟨w.heap.size + 1, 0, none⟩) 1 1, .int .i64 5, .int .i64 5] 37)) := (Ext.refl _).alloc _
            have ha := Lib.hid (show RdL 5 pmP (w39.alloc (.cells #[.string ⟨#[104, 101, 109]⟩, .slice (some ⟨w.heap.size, 0, none⟩) 1 1, .slice (some ⟨w.heap.size + 1, 0, none⟩) 1 1, .int .i64 5, .int .i64 5] 37)) (.slice (some ⟨w39.heap.size, 0, none⟩) 1 1) [exPom] from rdPm_one (Blk.new _ _ _) (hpm.out.ext (hE39.out.trans hx)))
            have hE40 := Lib.hid (hE39.out.trans hx)
            replace hb := Lib.hid (hb.out.ext inP.stays hx)
            replace hs := Lib.hid (hs.out.ext hx)
            refine hK.out _ _ ⟨fun b o hb => hE40.out.below.cell (p := ⟨b, o, none⟩) hb, hE40.out⟩ (fun hHeld => ?_)
            clear hK K hx
            generalize w39.alloc (.cells #[.string ⟨#[104, 101, 109]⟩, .slice (some ⟨w.heap.size, 0, none⟩) 1 1, .slice (some ⟨w.heap.size + 1, 0, none⟩) 1 1, .int .i64 5, .int .i64 5] 37) = w40 at *
            generalize w39.heap.size = ga at *
            try simp only [Act.put, List.setIfInBounds_toArray, List.set_cons_zero, List.set_cons_succ]
            refine wpAnyH_ready (rs := [4]) (by kernel_rfl) (by simp) (AllReadyH.cons (o := ⟨some 38, _, _, _, _, _⟩) rfl (fun K hK => ?_) AllReadyH.nil)
            go_simp
            refine (hcj.out _ _ _ _ _ _ _ _ _ hs.out ha.out hb.out).mono ?_
            rintro e w41 ⟨g, rfl, hj, he⟩
            have hE41 := Lib.hid (hE40.out.trans he)
            clear he
            go_wp2_with fail
            refine hK.out _ _ ⟨fun b o hb => hE41.out.below.cell (p := ⟨b, o, none⟩) hb, hE41.out⟩ (fun hHeld => ?_)
            clear hK K
            try simp only [Act.put, List.setIfInBounds_toArray, List.set_cons_zero, List.set_cons_succ]
            refine wpAnyH_take (i := 5) (oi := ⟨some 33, _, _, _, _, _⟩) (v := ?_) rfl (by kernel_rfl) (by kernel_rfl) (by kernel_rfl) (fun _ _ _ h => h) (Or.inl ⟨by rfl, ?_⟩) hHeld ?_
            rotate_left
            · intro w hSw; go_simp; try with_reducible rfl
            try simp only [Act.put, List.setIfInBounds_toArray, List.set_cons_zero, List.set_cons_succ]
            refine wpAnyH_take (i := 6) (oi := ⟨some 39, _, _, _, _, _⟩) (v := ?_) rfl (by kernel_rfl) (by kernel_rfl) (by kernel_rfl) (fun _ _ _ h => h) (Or.inl ⟨by rfl, ?_⟩) hHeld ?_
            rotate_left
            · intro w hSw; go_simp; try with_reducible rfl
            try simp only [Act.put, List.setIfInBounds_toArray, List.set_cons_zero, List.set_cons_succ]
            refine wpAnyH_take (i := 7) (oi := ⟨some 40, _, _, _, _, _⟩) (v := ?_) rfl (by kernel_rfl) (by kernel_rfl) (by kernel_rfl) (fun _ _ _ h => h) (Or.inl ⟨by rfl, ?_⟩) hHeld ?_
            rotate_left
            · intro w hSw; go_simp; try with_reducible rfl
            try simp only [Act.put, List.setIfInBounds_toArray, List.set_cons_zero, List.set_cons_succ]
            refine wpAnyH_take (i := 8) (oi := ⟨some 8, _, _, _, _, _⟩) (v := ?_) rfl (by kernel_rfl) (by kernel_rfl) (by kernel_rfl) (fun _ _ _ h => h) (Or.inl ⟨by rfl, ?_⟩) hHeld ?_
            rotate_left
            · intro w hSw; go_simp; try with_reducible rfl
            try simp only [Act.put, List.setIfInBounds_toArray, List.set_cons_zero, List.set_cons_succ]
            refine wpAnyH_take (i := 9) (oi := ⟨some 9, _, _, _, _, _⟩) (v := ?_) rfl (by kernel_rfl) (by kernel_rfl) (by kernel_rfl) (fun _ _ _ h => h) (Or.inl ⟨by rfl, ?_⟩) hHeld ?_
            rotate_left
            · intro w hSw; go_simp; try with_reducible rfl
            try simp only [Act.put, List.setIfInBounds_toArray, List.set_cons_zero, List.set_cons_succ]
            refine wpAnyH_done (by kernel_rfl) ?_ _
            go_wp2_with fail
            go_meet
            exact ⟨_, rfl, hj, rfl, hE41.out⟩
          exact AllReadyH.nil
        refine AllReadyH.cons (o := ⟨some 36, _, _, _, _, _⟩) rfl (fun K hK => ?_) ?_
        · go_simp
          have hx : Ext w38 (w38.alloc (.cells #[.string ⟨#[104, 101, 109]⟩, .slice (some ⟨w.heap.size, 0, none⟩) 1 1, .slice (some ⟨w.heap.size + 1, 0, none⟩) 1 1, .int .i64 5, .int .i64 5] 37)) := (Ext.refl _).alloc _
          have ha := Lib.hid (show RdL 5 pmP (w38.alloc (.cells #[.string ⟨#[104, 101, 109]⟩, .slice (some ⟨w.heap.size, 0, none⟩) 1 1, .slice (some ⟨w.heap.size + 1, 0, none⟩) 1 1, .int .i64 5, .int .i64 5] 37)) (.slice (some ⟨w38.heap.size, 0, none⟩) 1 1) [exPom] from rdPm_one (Blk.new _ _ _) (hpm.out.ext (hE38.out.trans hx)))
          have hE42 := Lib.hid (hE38.out.trans hx)
          replace hb := Lib.hid (hb.out.ext inP.stays hx)
          refine hK.out _ _ ⟨fun b o hb => hE42.out.below.cell (p := ⟨b, o, none⟩) hb, hE42.out⟩ (fun hHeld => ?_)
          clear hK K hx
          generalize w38.alloc (.cells #[.string ⟨#[104, 101, 109]⟩, .slice (some ⟨w.heap.size, 0, none⟩) 1 1, .slice (some ⟨w.heap.size + 1, 0, none⟩) 1 1, .int .i64 5, .int .i64 5] 37) = w42 at *
          generalize w38.heap.size = ga at *
          try simp only [Act.put, List.setIfInBounds_toArray, List.set_cons_zero, List.set_cons_succ]
          refine wpAnyH_ready (rs := [0]) (by kernel_rfl) (by simp) ?_
          refine AllReadyH.cons (o := ⟨some 34, _, _, _, _, _⟩) rfl (fun K hK => ?_) ?_
          · go_simp
            refine (hcs.out _).mono ?_
            rintro e w43 ⟨v1, v2, v3, v4, v5, v6, rfl, hs, hx⟩
            replace hs := Lib.hid hs
            have hE43 := Lib.hid (hE42.out.trans hx)
            replace hb := Lib.hid (hb.out.ext inP.stays hx)
            replace ha := Lib.hid (ha.out.ext pmP.stays hx)
            go_wp2_with fail
            refine hK.out _ _ ⟨fun b o hb => hE43.out.below.cell (p := ⟨b, o, none⟩) hb, hE43.out⟩ (fun hHeld => ?_)
            clear hK K hx
            try simp only [Act.put, List.setIfInBounds_toArray, List.set_cons_zero, List.set_cons_succ]
            refine wpAnyH_ready (rs := [4]) (by kernel_rfl) (by simp) (AllReadyH.cons (o := ⟨some 38, _, _, _, _, _⟩) rfl (fun K hK => ?_) AllReadyH.nil)
            go_simp
            refine (hcj.out _ _ _ _ _ _ _ _ _ hs.out ha.out hb.out).mono ?_
            rintro e w44 ⟨g, rfl, hj, he⟩
            have hE44 := Lib.hid (hE43.out.trans he)
            clear he
            go_wp2_with fail
            refine hK.out _ _ ⟨fun b o hb => hE44.out.below.cell (p := ⟨b, o, none⟩) hb, hE44.out⟩ (fun hHeld => ?_)
            clear hK K
            try simp only [Act.put, List.setIfInBounds_toArray, List.set_cons_zero, List.set_cons_succ]
            refine wpAnyH_take (i := 5) (oi := ⟨some 33, _, _, _, _, _⟩) (v := ?_) rfl (by kernel_rfl) (by kernel_rfl) (by kernel_rfl) (fun _ _ _ h => h) (Or.inl ⟨by rfl, ?_⟩) hHeld ?_
            rotate_left
            · intro w hSw; go_simp; try with_reducible rfl
            try simp only [Act.put, List.setIfInBounds_toArray, List.set_cons_zero, List.set_cons_succ]
            refine wpAnyH_take (i := 6) (oi := ⟨some 39, _, _, _, _, _⟩) (v := ?_) rfl (by kernel_rfl) (by kernel_rfl) (by kernel_rfl) (fun _ _ _ h => h) (Or.inl ⟨by rfl, ?_⟩) hHeld ?_
            rotate_left
            · intro w hSw; go_simp; try with_reducible rfl
            try simp only [Act.put, List.setIfInBounds_toArray, List.set_cons_zero, List.set_cons_succ]
            refine wpAnyH_take (i := 7) (oi := ⟨some 40, _, _, _, _, _⟩) (v := ?_) rfl (by kernel_rfl) (by kernel_rfl) (by kernel_rfl) (fun _ _ _ h => h) (Or.inl ⟨by rfl, ?_⟩) hHeld ?_
            rotate_left
            · intro w hSw; go_simp; try with_reducible rfl
            try simp only [Act.put, List.setIfInBounds_toArray, List.set_cons_zero, List.set_cons_succ]
            refine wpAnyH_take (i := 8) (oi := ⟨some 8, _, _, _, _, _⟩) (v := ?_) rfl (by kernel_rfl) (by kernel_rfl) (by kernel_rfl) (fun _ _ _ h => h) (Or.inl ⟨by rfl, ?_⟩) hHeld ?_
            rotate_left
            · intro w hSw; go_simp; try with_reducible rfl
            try simp only [Act.put, List.setIfInBounds_toArray, List.set_cons_zero, List.set_cons_succ]
            refine wpAnyH_take (i := 9) (oi := ⟨some 9, _, _, _, _, _⟩) (v := ?_) rfl (by kernel_rfl) (by kernel_rfl) (by kernel_rfl) (fun _ _ _ h => h) (Or.inl ⟨by rfl, ?_⟩) hHeld ?_
            rotate_left
            · intro w hSw; go_simp; try with_reducible rfl
            try simp only [Act.put, List.setIfInBounds_toArray, List.set_cons_zero, List.set_cons_succ]
            refine wpAnyH_done (by kernel_rfl) ?_ _
            go_wp2_with fail
            go_meet
            exact ⟨_, rfl, hj, rfl, hE44.out⟩
          exact AllReadyH.nil
        exact AllReadyH.nil
      exact AllReadyH.nil
    case rest =>
      obtain ⟨g, rfl, hj, rfl, hx⟩ := hcut
      have j0 : wc.cell? ⟨g, 0, none⟩ = some (.int .i64 (-5)) := hj.cell 0
      have lj := hj.lt
      replace hX5 := Lib.hid (hX5.out.trans hx)
      clear p0 p1 p2 p3 p4 lP hx
      go_wp2
      go_ret
      exact ⟨rfl, hX5.out⟩

end Go.Proofs.YtiahfiopigjolaaGreat
