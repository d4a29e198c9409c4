/- Contract of able. -/
import Derived.Test.YthfcllefmeoicaaAble
namespace Go.Proofs.Ythfcllefmeoicaa
open Go.RowKit
attribute [local go_sem ↓] Go.wp_at_zero Go.wp_at_succ

set_option maxHeartbeats 2000000 in
theorem c_able (v u : Value) (ws : List Wk) (needs : List Int) (w : World) (h : RdW w v ws) (g : RdI w u needs) (h12 : ws.length ≤ 12) (h16 : needs.length ≤ 16) :
    Calls Try.prog 31 #[v, u] w fun e w' => ∃ r, e = .returned r ∧ RdC w' r (setsW ws needs) ∧ Fresh w.heap.size r ∧ Ext w w' := by
  obtain ⟨A, cap, rfl, hcap, hmax, hc⟩ := h
  obtain ⟨B, cap', rfl, hcap', hmax', hd⟩ := g
  unfold maxLen at hmax hmax'
  have hmk := make_mat needs.length (by omega)
  go_enter Try.func31, Try.ntmps31
  go_wp2
  clear hmk
  go_loopw [14] (fun i wr => ∃ k : Nat, k ≤ needs.length ∧ i = .int .i64 k ∧ Blk wr w.heap.size 58 (matA needs.length (partM ws needs k 0)) ∧ Ext w wr) (fun i _ => needs.length - (intOf i).toNat)
  case atStart => exact ⟨0, Nat.zero_le _, rfl, by rw [partM_zero]; exact Blk.new _ _ _, (Ext.refl _).alloc _⟩
  case round =>
    obtain ⟨k, hk, rfl, hB, hext⟩ := hrel
    by_cases hlt : k < needs.length
    · obtain ⟨b, o, rfl, hcell⟩ := hd k hlt
      have hcell := hext.cell hcell
      have hBB := Lib.hid hB
      clear hB
      obtain ⟨wo, rfl⟩ : ∃ wo : World, wo = wr := ⟨_, rfl⟩
      have hextH := Lib.hid hext
      clear hext
      go_wp2_with fail
      go_loopw [21] (fun i wr => ∃ j : Nat, j ≤ ws.length ∧ i = .int .i64 j ∧ Blk wr w.heap.size 58 (matA needs.length (partM ws needs k j)) ∧ Ext w wr) (fun i _ => ws.length - (intOf i).toNat)
      case atStart => exact ⟨0, Nat.zero_le _, rfl, hBB.out, hextH.out⟩
      case round =>
        obtain ⟨j, hj, rfl, hB, hext⟩ := hrel
        by_cases hjl : j < ws.length
        · obtain ⟨b2, o2, mv, rfl, hn, hm, hr, hsz⟩ := hc j hjl
          have hb2 : b2 < w.heap.size := World.block_lt_of_cell? w _ hn
          have hrr := Lib.hid hr
          obtain ⟨MA, mcap, rfl, mh1, mh2, mh3⟩ := hr
          have hn := hext.cell hn
          have hm := hext.cell hm
          have hN : w.heap.size ≤ wr.heap.size := hext.size
          have hH := Lib.hid hB.has
          have hBj := Lib.hid hB
          have hextj := Lib.hid hext
          have i0 : (0 : Int) ≤ (k : Int) := by omega
          have i1 : (k : Int) < (needs.length : Int) := by omega
          have i2 : (0 : Int) ≤ (j : Int) := by omega
          have i3 : (j : Int) < 12 := by omega
          have i4 : (j : Int) < (ws.length : Int) := by omega
          clear hB hext hc hd mh3
          go_wp2_with fail
          go_region_held3 (fun w' => (∀ b o, b < w.heap.size → w'.cell? ⟨b, o, none⟩ = wr.cell? ⟨b, o, none⟩) ∧ Kp w.heap.size wr w')
            (first
              | exact (Kp.start hN).drew.both
              | (go_split_ands; exact ((by assumption : Kp _ _ _).call he).both)
              | exact (Kp.set ((Kp.start hN).drew.call he) (p := ⟨w.heap.size, k * 12 + j, none⟩) (Nat.le_refl _) _).both)
            (first
              | (go_at_call 13; go_split_ands; refine (c_can _ _ needs[k] ws[j].mach _ (hrr.out.ext ((by assumption : Kp _ _ _).ext hextj.out (Nat.le_refl _)))).mono ?_; rintro e w1 ⟨rfl, he⟩; have hB1 := hBj.out.drew.ext he; have hc1 := hB1.cell (k * 12 + j); rw [matA_get _ _ _ _ hlt (by omega)] at hc1; have hf1 := hB1.frozen (k * 12 + j); have hB1 := Lib.hid hB1))
          go_wp2
          go_roundw
          case rel =>
            refine ⟨j + 1, by omega, by go_num, ?_, ?_⟩
            · rw [← partM_step ws needs k j hlt, ← matA_set _ _ _ _ _ (by omega), ableB_at hjl]
              exact hB1.out.set_ _ _
            · exact ((hextj.out.drew.trans he).setCell (Nat.le_refl _) _)
          case measure => simp [intOf]; omega
        · have hjw : j = ws.length := by omega
          subst hjw
          go_wp2
          go_roundw
          case rel => exact ⟨k + 1, by omega, by go_num, by rw [← partM_row ws needs k h12]; exact hB, hext⟩
          case measure => simp [intOf]; omega
    · go_wp2
      go_ret
      have hkn : k = needs.length := by omega
      subst hkn
      rw [partM_end] at hB
      refine ⟨_, rfl, rdC_of hB (by simp [setsW]) (by unfold maxLen; omega) ?_, Fresh.mk _ _ _ _ _ _ (Nat.le_refl _), hext⟩
      intro k hk j hj
      have hk' : k < needs.length := by simpa [setsW] using hk
      have hm := congrFun (List.getElem_map (ableB ws) (l := needs) (i := k) (h := hk)) j
      rw [List.getElem?_eq_getElem hk']
      exact hm.symm
end Go.Proofs.Ythfcllefmeoicaa
