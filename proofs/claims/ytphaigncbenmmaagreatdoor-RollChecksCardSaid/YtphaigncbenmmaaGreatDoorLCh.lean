/- RollChecks says yes of every roll. -/
import Derived.Test.YtphaigncbenmmaaGreatDoorAwk
import Derived.Test.YtphaigncbenmmaaGreatDoorRck
import Derived.Deep.RegionHeld3
import Derived.Deep.DrawnRows
namespace Go.Proofs.YtphaigncbenmmaaGreatDoor
open Go Go.RowKit
attribute [local go_sem ↓] Go.wp_at_zero Go.wp_at_succ

set_option maxRecDepth 20000 in
set_option maxHeartbeats 2000000 in
theorem c_checks (r : Ro) (v : Value) (w : World) (ht : Tab w) (h : RdO w v r) : Calls Tryz.prog 3 #[v] w fun e w' => e = .returned (.bool true) ∧ Ext w w' := by
  obtain ⟨fv, rfl, h⟩ := h
  obtain ⟨Af, cf, rfl⟩ := h.slice
  replace h := Lib.hid h
  replace ht := Lib.hid ht
  obtain ⟨wB, hwB⟩ : ∃ wB, wB = w.alloc (.cells (roC r (.slice Af r.fl.length cf)).toArray 26) := ⟨_, rfl⟩
  have hb := show Blk wB w.heap.size 26 (roC r (.slice Af r.fl.length cf)).toArray from hwB ▸ Blk.new w 26 _
  have hEB := Lib.hid (show Ext w wB from hwB ▸ (Ext.refl w).alloc _)
  obtain ⟨q0, q1, q2, q3, q4, q5, q6⟩ := hb.parts7
  have hlt := hb.lt
  have hN : wB.heap.size ≤ wB.heap.size := Nat.le_refl _
  have hcf := fun w h => c_few r (.slice Af r.fl.length cf) w h
  replace hb := Lib.hid hb
  unfold roC at hwB
  rcases hf : few1 r with _ | _
  · rw [hf] at hcf
    unfold roV at hcf ⊢
    replace hcf := Lib.hid hcf
    replace hf := Lib.hid hf
    go_enter Tryz.func3, Tryz.ntmps3
    go_wp2_with fail
    rw [← hwB]
    clear hwB
    refine wp_region_held_drew (S := fun w' => (∀ b o, b < wB.heap.size → w'.cell? ⟨b, o, none⟩ = wB.cell? ⟨b, o, none⟩) ∧ Kp wB.heap.size wB w') (by kernel_rfl) ((Kp.start hN).drew.both) (fun hHeld => ?_)
    refine wpAnyH_take (i := 0) (oi := ⟨some 3, _, _, _, _, _⟩) (v := ?_) rfl (by kernel_rfl) (by kernel_rfl) (by kernel_rfl) (fun _ _ _ h => h) (Or.inl ⟨by rfl, ?_⟩) hHeld ?_
    rotate_left
    · intro w hSw; go_simp; try with_reducible rfl
    try simp only [Act.put, List.setIfInBounds_toArray, List.set_cons_zero, List.set_cons_succ]
    refine wpAnyH_ready (rs := [1]) (by kernel_rfl) (by simp) (AllReadyH.cons (o := ⟨some 4, _, _, _, _, _⟩) rfl (fun K hK => ?_) AllReadyH.nil)
    go_simp
    refine (hcf.out _ (h.out.ext (hEB.out.trans (hHeld.2.ext (Ext.refl _) (Nat.le_refl _))))).mono ?_
    rintro e w2 ⟨rfl, he⟩
    go_wp2_with fail
    refine hK.out _ _ ((hHeld.2.call he).both) (fun hHeld => ?_)
    clear hK K
    try simp only [Act.put, List.setIfInBounds_toArray, List.set_cons_zero, List.set_cons_succ]
    refine wpAnyH_take (i := 2) (oi := ⟨some 5, _, _, _, _, _⟩) (v := .bool true) rfl (by kernel_rfl) (by kernel_rfl) (by kernel_rfl) (fun _ _ _ h => h) (Or.inl ⟨by rfl, by intro w hSw; go_simp⟩) hHeld ?_
    try simp only [Act.put, List.setIfInBounds_toArray, List.set_cons_zero, List.set_cons_succ]
    refine wpAnyH_take (i := 3) (oi := ⟨some 6, _, _, _, _, _⟩) (v := .bool true) rfl (by kernel_rfl) (by kernel_rfl) (by kernel_rfl) (fun _ _ _ h => h) (Or.inl ⟨by rfl, by intro w hSw; go_simp⟩) hHeld ?_
    try simp only [Act.put, List.setIfInBounds_toArray, List.set_cons_zero, List.set_cons_succ]
    refine wpAnyH_take (i := 4) (oi := ⟨some 7, _, _, _, _, _⟩) (v := undef) rfl (by kernel_rfl) (by kernel_rfl) (by kernel_rfl) (fun _ _ _ h => h) (Or.inr ⟨by kernel_rfl, rfl⟩) hHeld ?_
    try simp only [Act.put, List.setIfInBounds_toArray, List.set_cons_zero, List.set_cons_succ]
    refine wpAnyH_take (i := 5) (oi := ⟨some 8, _, _, _, _, _⟩) (v := undef) rfl (by kernel_rfl) (by kernel_rfl) (by kernel_rfl) (fun _ _ _ h => h) (Or.inr ⟨by kernel_rfl, rfl⟩) hHeld ?_
    try simp only [Act.put, List.setIfInBounds_toArray, List.set_cons_zero, List.set_cons_succ]
    refine wpAnyH_take (i := 6) (oi := ⟨some 9, _, _, _, _, _⟩) (v := undef) rfl (by kernel_rfl) (by kernel_rfl) (by kernel_rfl) (fun _ _ _ h => h) (Or.inr ⟨by kernel_rfl, rfl⟩) hHeld ?_
    try simp only [Act.put, List.setIfInBounds_toArray, List.set_cons_zero, List.set_cons_succ]
    refine wpAnyH_take (i := 7) (oi := ⟨some 10, _, _, _, _, _⟩) (v := undef) rfl (by kernel_rfl) (by kernel_rfl) (by kernel_rfl) (fun _ _ _ h => h) (Or.inr ⟨by kernel_rfl, rfl⟩) hHeld ?_
    try simp only [Act.put, List.setIfInBounds_toArray, List.set_cons_zero, List.set_cons_succ]
    refine wpAnyH_take (i := 8) (oi := ⟨some 11, _, _, _, _, _⟩) (v := undef) rfl (by kernel_rfl) (by kernel_rfl) (by kernel_rfl) (fun _ _ _ h => h) (Or.inr ⟨by kernel_rfl, rfl⟩) hHeld ?_
    try simp only [Act.put, List.setIfInBounds_toArray, List.set_cons_zero, List.set_cons_succ]
    refine wpAnyH_take (i := 9) (oi := ⟨some 12, _, _, _, _, _⟩) (v := .bool true) rfl (by kernel_rfl) (by kernel_rfl) (by kernel_rfl) (fun _ _ _ h => h) (Or.inl ⟨by rfl, by intro w hSw; go_simp⟩) hHeld ?_
    try simp only [Act.put, List.setIfInBounds_toArray, List.set_cons_zero, List.set_cons_succ]
    refine wpAnyH_take (i := 10) (oi := ⟨some 13, _, _, _, _, _⟩) (v := .bool true) rfl (by kernel_rfl) (by kernel_rfl) (by kernel_rfl) (fun _ _ _ h => h) (Or.inl ⟨by rfl, by intro w hSw; go_simp⟩) hHeld ?_
    try simp only [Act.put, List.setIfInBounds_toArray, List.set_cons_zero, List.set_cons_succ]
    refine wpAnyH_ready (rs := [11]) (by kernel_rfl) (by simp) (AllReadyH.cons (o := ⟨some 14, _, _, _, _, _⟩) rfl (fun K hK => ?_) AllReadyH.nil)
    go_simp
    refine (c_example _ (ht.out.ext (hEB.out.trans (hHeld.2.ext (Ext.refl _) (Nat.le_refl _))))).mono ?_
    rintro e w3 ⟨rfl, he⟩
    go_wp2_with fail
    refine hK.out _ _ ((hHeld.2.call he).both) (fun hHeld => ?_)
    clear hK K
    try simp only [Act.put, List.setIfInBounds_toArray, List.set_cons_zero, List.set_cons_succ]
    refine wpAnyH_take (i := 12) (oi := ⟨some 15, _, _, _, _, _⟩) (v := .bool true) rfl (by kernel_rfl) (by kernel_rfl) (by kernel_rfl) (fun _ _ _ h => h) (Or.inl ⟨by rfl, by intro w hSw; go_simp⟩) hHeld ?_
    try simp only [Act.put, List.setIfInBounds_toArray, List.set_cons_zero, List.set_cons_succ]
    refine wpAnyH_take (i := 13) (oi := ⟨some 2, _, _, _, _, _⟩) (v := .bool true) rfl (by kernel_rfl) (by kernel_rfl) (by kernel_rfl) (fun _ _ _ h => h) (Or.inl ⟨by rfl, by intro w hSw; go_simp⟩) hHeld ?_
    try simp only [Act.put, List.setIfInBounds_toArray, List.set_cons_zero, List.set_cons_succ]
    refine wpAnyH_done (by kernel_rfl) ?_ _
    have hfin := Lib.hid (hHeld.2.ext (Ext.refl _) (Nat.le_refl _))
    go_wp2
    go_ret
    exact ⟨rfl, hEB.out.trans hfin.out⟩
  · have hid : r.id.length ≤ 30000 := by
      have := of_decide_eq_true (show decide (r.fl.length ≤ 30 ∧ r.id.length ≤ 100) = true from hf)
      omega
    rw [hf] at hcf
    have hc1 := fun w h => c_check r (.slice Af r.fl.length cf) w h hid
    have hc2 := fun w h => c_rcheck r (.slice Af r.fl.length cf) w h hid
    obtain ⟨c, hc⟩ : ∃ c, c = check r := ⟨_, rfl⟩
    rw [← hc] at hc1 hc2
    have hcc : (c == c) = true := by simp
    clear hc
    unfold roV at hcf hc1 hc2 ⊢
    replace hcf := Lib.hid hcf
    replace hc1 := Lib.hid hc1
    replace hc2 := Lib.hid hc2
    replace hf := Lib.hid hf
    go_enter Tryz.func3, Tryz.ntmps3
    go_wp2_with fail
    rw [← hwB]
    clear hwB
    go_region_held3 (fun w' => (∀ b o, b < wB.heap.size → w'.cell? ⟨b, o, none⟩ = wB.cell? ⟨b, o, none⟩) ∧ Kp wB.heap.size wB w')
      (first
        | exact (Kp.start hN).drew.both
        | (go_split_ands; exact ((by assumption : Kp _ _ _).call he).both)
        | assumption)
      (first
        | (go_at_call 9; go_split_ands; have hx := hEB.out.trans ((by assumption : Kp _ _ _).ext (Ext.refl _) (Nat.le_refl _)); refine (hcf.out _ (h.out.ext hx)).mono ?_; rintro e wS ⟨rfl, he⟩; clear hx)
        | (go_at_call 10; go_split_ands; have hx := hEB.out.trans ((by assumption : Kp _ _ _).ext (Ext.refl _) (Nat.le_refl _)); refine (hc1.out _ (h.out.ext hx)).mono ?_; rintro e wS ⟨rfl, he⟩; clear hx)
        | (go_at_call 11; go_split_ands; have hx := hEB.out.trans ((by assumption : Kp _ _ _).ext (Ext.refl _) (Nat.le_refl _)); refine (hc2.out _ (h.out.ext hx)).mono ?_; rintro e wS ⟨rfl, he⟩; clear hx)
        | (go_at_call 12; go_split_ands; have hx := hEB.out.trans ((by assumption : Kp _ _ _).ext (Ext.refl _) (Nat.le_refl _)); refine (c_example _ (ht.out.ext hx)).mono ?_; rintro e wW ⟨rfl, he⟩; clear hx))
    have hfin := Lib.hid ((by assumption : _ ∧ Kp wB.heap.size wB wW).2.ext (Ext.refl _) (Nat.le_refl _))
    go_wp2
    go_ret
    exact ⟨rfl, hEB.out.trans hfin.out⟩

end Go.Proofs.YtphaigncbenmmaaGreatDoor
