/- The contract of the reference's table. -/
import Derived.Test.YthfcllefmeoicaaRTab
namespace Go.Proofs.Ythfcllefmeoicaa
open Go.RowKit
attribute [local go_sem ↓] Go.wp_at_zero Go.wp_at_succ

theorem upd_upd {α : Type} (F : Nat → α) (b : Nat) (x y : α) : upd (upd F b x) b y = upd F b y := by
  funext i; unfold upd; split <;> rfl
theorem row_cells {cs : List (Nat → Bool)} {n i cap N : Nat} {A : Option Addr} {w : World} (hN : N = 2 ^ n) (h : RdI w (.slice A (2 ^ n) cap) (rowL cs n i)) :
    ∃ c p, A = some ⟨c, p, none⟩ ∧ ∀ b, b < N → w.cell? ⟨c, p + b, none⟩ = some (.int .i64 ((tbl cs n i b : Nat) : Int)) := by
  subst hN
  obtain ⟨A', cap', e, h1, h2, h3⟩ := h
  injection e with e1 _ _
  subst e1
  have hp : 0 < 2 ^ n := Nat.two_pow_pos n
  obtain ⟨c, p, rfl, _⟩ := h3 0 (by rw [rowL_len]; exact hp)
  refine ⟨c, p, rfl, fun b hb => ?_⟩
  obtain ⟨c', p', e2, hc⟩ := h3 b (by rw [rowL_len]; exact hb)
  obtain ⟨rfl, rfl⟩ : c = c' ∧ p = p' := by simpa using e2
  rw [rowL_get] at hc
  exact hc

set_option maxRecDepth 100000 in
set_option maxHeartbeats 1000000 in
theorem c_table (v u : Value) (ws : List Wk) (needs : List Int) (w : World) (h : RdW w v ws) (g : RdI w u needs) (h12 : ws.length ≤ 12) (h16 : needs.length ≤ 16) :
    Calls Try.prog 34 #[v, u] w fun e w' => ∃ r, e = .returned r ∧ TabOk (setsW ws needs) ws.length w' r ∧ Ext w w' := by
  obtain ⟨A, cap, rfl, hcap, hmax, hc⟩ := h
  obtain ⟨B, capB, rfl, hcapB, hmaxB, hd⟩ := g
  unfold maxLen at hmax hmaxB
  replace hc := Lib.hid hc
  replace hd := Lib.hid hd
  have hlen := Lib.hid (setsW_len ws needs)
  have hable := Lib.hid (show ∀ k (hk : k < needs.length) j (hj : j < ws.length), csAt (setsW ws needs) k j = memI needs[k] ws[j].mach from fun k hk j hj => able_at hk hj)
  have hin := Lib.hid (show ∀ i j, csAt (setsW ws needs) i j = true → j < ws.length from fun i j hx => by obtain ⟨_, hi, _⟩ := able_of hx; exact hi)
  generalize setsW ws needs = cs at *
  obtain ⟨N, hN, hN12, hpw⟩ := pow_wrap ws.length h12
  have hmk1 : ∀ w, (Instr.makeSlice 60 (.int .i64 ((needs.length : Int) + 1)) (.int .i64 ((needs.length : Int) + 1))).run Try.prog w = .ok (.slice (some ⟨w.heap.size, 0, none⟩) (needs.length + 1) (needs.length + 1)) (w.alloc (.cells (outZ (needs.length + 1)) 26)) := fun w => by
    have h := make_out (needs.length + 1) (by omega) w
    rw [show ((needs.length + 1 : Nat) : Int) = (needs.length : Int) + 1 by omega] at h
    exact h
  have hmk2 : ∀ w, (Instr.makeSlice 26 (.int .i64 (wrap64 (2 ^ ws.length))) (.int .i64 (wrap64 (2 ^ ws.length)))).run Try.prog w = .ok (.slice (some ⟨w.heap.size, 0, none⟩) N N) (w.alloc (.cells (natA N fun _ => 0) 3)) := fun w => by
    rw [hpw, ← natA_zero]; exact make_res N (by omega) w
  replace hN := Lib.hid hN
  clear hpw
  go_enter Try.func34, Try.ntmps34
  go_wp2_with fail
  clear hmk1
  go_loopw [6, 7, 8, 9] (fun i u7 u8 u9 wr => ∃ t : Int, -1 ≤ t ∧ t ≤ needs.length ∧ i = .int .i64 t ∧ Rows' cs ws.length wr w.heap.size t ∧ Ext w wr) (fun i _ _ _ _ => (intOf i + 1).toNat)
  case atStart =>
    refine ⟨needs.length, by omega, by omega, rfl, ⟨_, Blk.new _ _ _, by rw [outZ_size, hlen.out], outZ_no _, fun j hj hk => ?_⟩, (Ext.refl _).alloc _⟩
    rw [hlen.out] at hk
    omega
  case round =>
    obtain ⟨t, ht0, ht1, rfl, hrows, hext⟩ := hrel
    replace hext := Lib.hid hext
    by_cases hpos : 0 ≤ t
    · obtain ⟨i, rfl⟩ : ∃ i : Nat, t = (i : Int) := ⟨t.toNat, by omega⟩
      obtain ⟨wo, rfl⟩ : ∃ wo : World, wo = wr := ⟨_, rfl⟩
      replace hrows := Lib.hid hrows
      have hi : i ≤ needs.length := by omega
      clear ht0 ht1 hpos
      go_wp2_with fail
      go_loopw [8, 9] (fun x u9 wr => ∃ (b : Nat) (F : Nat → Nat), b ≤ N ∧ x = .int .i64 b ∧ Hid (∀ y, y < b → F y = tbl cs ws.length i y) ∧ Hid (∀ y, b ≤ y → F y = 0) ∧ Blk wr wo.heap.size 3 (natA N F) ∧ Ext wo wr) (fun x _ _ => N - (intOf x).toNat)
      case atStart => exact ⟨0, fun _ => 0, by omega, rfl, Lib.hid (fun y hy => absurd hy (by omega)), Lib.hid (fun _ _ => rfl), Blk.new _ _ _, (Ext.refl _).alloc _⟩
      case round =>
        obtain ⟨b, F, hbN, rfl, HF, HZ, hB, hX⟩ := hrel
        replace hX := Lib.hid hX
        replace hB := Lib.hid hB
        by_cases hgo : b < N ∧ i < needs.length
        · obtain ⟨hbl, hil⟩ := hgo
          have hb1 := hB.out.cell b
          rw [natA_get N F b hbl] at hb1
          have hb2 := hB.out.frozen b
          obtain ⟨ds, hD, hDs, hDn, hDr⟩ := hrows.out
          obtain ⟨A', cap', hA, hRd⟩ := hDr (i + 1) (by omega) (by rw [hlen.out]; omega)
          have hD1 := hX.out.cell ((hD.cell (i + 1)).trans hA)
          have hDo := (hD.cell (i + 1)).trans hA
          rw [← hN.out] at hD1 hDo
          replace hDo := Lib.hid hDo
          obtain ⟨c, p, rfl, hrow⟩ := row_cells hN.out (hRd.ext hX.out)
          have hrb := hrow b hbl
          obtain ⟨c', p', e', hrow0⟩ := row_cells hN.out hRd
          obtain ⟨rfl, rfl⟩ : c = c' ∧ p = p' := by simpa using e'
          replace hrow0 := Lib.hid hrow0
          have i0 : (0 : Int) ≤ (b : Int) := by omega
          have i1 : (b : Int) < (N : Int) := by omega
          have i2 : (i : Int) < (needs.length : Int) := by omega
          have i3 : (0 : Int) ≤ (i : Int) := by omega
          have i4 : (i : Int) + 1 < (needs.length : Int) + 1 := by omega
          clear hrow hDr hA hD hDs hDn hRd e'
          go_wp2_with fail
          have hB1 := Lib.hid (hB.out.set_ b (.int .i64 ((tbl cs ws.length (i + 1) b : Nat) : Int)))
          have hX1 := Lib.hid (hX.out.setCell (p := ⟨wo.heap.size, b, none⟩) (Nat.le_refl _) (.int .i64 ((tbl cs ws.length (i + 1) b : Nat) : Int)))
          rw [natA_set] at hB1
          clear hb1 hb2 hD1 hrb hB hX
          go_loopw [9] (fun x wr => ∃ j : Nat, j ≤ ws.length ∧ x = .int .i64 j ∧ Blk wr wo.heap.size 3 (natA N (upd F b (prt (tbl cs ws.length (i + 1)) (csAt cs i) b j))) ∧ Ext wo wr) (fun x _ => ws.length - (intOf x).toNat)
          case atStart => exact ⟨0, by omega, rfl, hB1.out, hX1.out⟩
          case round =>
            obtain ⟨j, hj, rfl, hB, hX⟩ := hrel
            replace hX := Lib.hid hX
            replace hB := Lib.hid hB
            clear hB1 hX1
            by_cases hjl : j < ws.length
            · obtain ⟨b2, o2, mv, rfl, hwn, hwm, hwr, _⟩ := hc.out j hjl
              obtain ⟨b3, o3, rfl, hcn⟩ := hd.out i hil
              have hXw := Lib.hid (hext.out.trans hX.out)
              replace hwn := hXw.out.cell hwn
              replace hwm := hXw.out.cell hwm
              replace hcn := hXw.out.cell hcn
              have hb2 : b2 < wr.heap.size := World.block_lt_of_cell? wr _ hwn
              have hb3 : b3 < wr.heap.size := World.block_lt_of_cell? wr _ hcn
              have hrr := Lib.hid (hwr.ext hXw.out)
              have hNN : wr.heap.size ≤ wr.heap.size := Nat.le_refl _
              have k0 : (0 : Int) ≤ (j : Int) := by omega
              have k1 : (j : Int) < (ws.length : Int) := by omega
              have hcs := Lib.hid (hable.out i hil j hjl)
              clear hwr
              cases hbit : b.testBit j with
              | true =>
                have hq := Lib.hid (show ∀ n, Calls Try.prog 35 #[.int .i64 b, .int .i64 j] (wr.drewN n) (fun e w' => e = .returned (.bool true) ∧ wr.drewN n = w') from fun n => by
                  have hcl := c_has b j (wr.drewN n) (by omega) (by omega)
                  rw [hbit] at hcl
                  exact hcl)
                have hsame := Lib.hid (show prt (tbl cs ws.length (i + 1)) (csAt cs i) b (j + 1) = prt (tbl cs ws.length (i + 1)) (csAt cs i) b j by rw [prt, hbit]; rfl)
                go_wp2_with fail
                go_quiet ((go_at_call 35; exact quietS (hq.out _)))
                go_wp2_with fail
                go_roundw
                case rel => exact ⟨j + 1, by omega, by go_num, by rw [hsame.out]; exact hB.out.drewN _, hX.out.drewN _⟩
                case measure => simp [intOf]; omega
              | false =>
                cases hcan : memI needs[i] ws[j].mach with
                | false =>
                  have hsame := Lib.hid (show prt (tbl cs ws.length (i + 1)) (csAt cs i) b (j + 1) = prt (tbl cs ws.length (i + 1)) (csAt cs i) b j by rw [prt, hbit, hcs.out, hcan]; rfl)
                  replace hcan := Lib.hid hcan
                  replace hbit := Lib.hid hbit
                  go_wp2_with fail
                  go_region_held3 (fun w' => (∀ b o, b < wr.heap.size → w'.cell? ⟨b, o, none⟩ = wr.cell? ⟨b, o, none⟩) ∧ Kp wr.heap.size wr w')
                    (first
                      | exact (Kp.start hNN).drew.both
                      | (go_split_ands; exact ((by assumption : Kp _ _ _).call he).both)
                      | assumption)
                    (first
                      | (go_at_call 35; have hcl := c_has b j; (with_reducible refine (hcl _ (by omega) (by omega)).mono ?_); rintro e w2 ⟨rfl, rfl⟩; rw [hbit.out]; clear hcl)
                      | (go_at_call 14; go_split_ands; have hcl := c_refcan ws[j].name _ needs[i] ws[j].mach _ (hrr.out.ext ((by assumption : Kp _ _ _).ext (Ext.refl _) (Nat.le_refl _))); rw [hcan.out] at hcl; refine hcl.mono ?_; rintro e w2 ⟨rfl, he⟩; clear hcl))
                  go_wp2_with fail
                  go_roundw
                  case rel => exact ⟨j + 1, by omega, by go_num, by rw [hsame.out]; exact hB.out.drew.ext he, hX.out.drew.trans he⟩
                  case measure => simp [intOf]; omega
                | true =>
                  have hmax := Lib.hid (show prt (tbl cs ws.length (i + 1)) (csAt cs i) b (j + 1) = max (prt (tbl cs ws.length (i + 1)) (csAt cs i) b j) (1 + tbl cs ws.length (i + 1) (b ||| 2 ^ j)) by rw [prt, hbit, hcs.out, hcan]; rfl)
                  replace hcan := Lib.hid hcan
                  replace hbit := Lib.hid hbit
                  go_wp2_with fail
                  go_region_held3 (fun w' => (∀ b o, b < wr.heap.size → w'.cell? ⟨b, o, none⟩ = wr.cell? ⟨b, o, none⟩) ∧ Kp wr.heap.size wr w')
                    (first
                      | exact (Kp.start hNN).drew.both
                      | (go_split_ands; exact ((by assumption : Kp _ _ _).call he).both)
                      | assumption)
                    (first
                      | (go_at_call 35; have hcl := c_has b j; (with_reducible refine (hcl _ (by omega) (by omega)).mono ?_); rintro e w2 ⟨rfl, rfl⟩; rw [hbit.out]; clear hcl)
                      | (go_at_call 14; go_split_ands; have hcl := c_refcan ws[j].name _ needs[i] ws[j].mach _ (hrr.out.ext ((by assumption : Kp _ _ _).ext (Ext.refl _) (Nat.le_refl _))); rw [hcan.out] at hcl; refine hcl.mono ?_; rintro e w2 ⟨rfl, he⟩; clear hcl))
                  have hB2 : Blk w2.drew wo.heap.size 3 (natA N (upd F b (prt (tbl cs ws.length (i + 1)) (csAt cs i) b j))) := (hB.out.drew.ext he).drew
                  have hX2 := Lib.hid (show Ext wo w2.drew from (hX.out.drew.trans he).drew)
                  clear he
                  obtain ⟨X, hX0⟩ : ∃ X : Nat, X = b ||| 2 ^ j := ⟨_, rfl⟩
                  have hXN : X < N := by
                    have h1 : b < 2 ^ ws.length := by rw [← hN.out]; exact hbl
                    have h2 : 2 ^ j < 2 ^ ws.length := Nat.pow_lt_pow_right (by omega) hjl
                    have h3 := Nat.or_lt_two_pow h1 h2
                    rw [hX0, hN.out]; exact h3
                  have hc1 := hB2.cell b
                  rw [natA_get N _ b hbl, upd_same] at hc1
                  have hc2 := hB2.frozen b
                  have hc3 := hX2.out.cell hDo.out
                  have hc4 := hX2.out.cell (hrow0.out X hXN)
                  have hbw : wo.heap.size < w2.drew.heap.size := hB2.lt
                  have hwith := Lib.hid (show ∀ W, Calls Try.prog 36 #[.int .i64 b, .int .i64 j] W fun e w' => e = .returned (.int .i64 (X : Nat)) ∧ w' = W from fun W => (c_with b j W (by omega) (by omega)).mono fun e w' ⟨h1, h2⟩ => ⟨by rw [h1, hX0], h2.symm⟩)
                  replace hB2 := Lib.hid hB2
                  rw [← hX0] at hmax
                  replace hX0 := Lib.hid hX0
                  have hT1 : tbl cs ws.length (i + 1) X ≤ 16 := by have := tbl_le cs ws.length (i + 1) X; rw [hlen.out] at this; omega
                  have k2 : (0 : Int) ≤ (X : Int) := by omega
                  have k3 : (X : Int) < (N : Int) := by omega
                  generalize tbl cs ws.length (i + 1) X = T1 at *
                  generalize prt (tbl cs ws.length (i + 1)) (csAt cs i) b j = T0 at *
                  have k4 : IntKind.i64.wrap (1 + (T1 : Int)) = 1 + (T1 : Int) := IntWalk.i64_in _ (by omega)
                  have k6 : (0 : Int) ≤ (i : Int) + 1 := by omega
                  have k5 : IntKind.i64.wrap ((i : Int) + 1) = (i : Int) + 1 := IntWalk.i64_in _ (by omega)
                  rcases Nat.lt_or_ge T0 (1 + T1) with hm | hm
                  · have hmI : (T0 : Int) < 1 + (T1 : Int) := by omega
                    have hval := Lib.hid (show max T0 (1 + T1) = 1 + T1 by omega)
                    clear hm
                    go_wp2_with fail
                    refine wp_region_still_tail 19 (by kernel_rfl) (by kernel_rfl) ?_
                    simp only [List.take_succ_cons, List.take_zero, List.drop_succ_cons, List.drop_zero]
                    show wpStill Try.prog _ w2.drew (fun a' => wpList Try.prog _ _ _ a' w2.drew) _ _
                    generalize w2.drew = W3 at *
                    iterate 13 still_step
                    still_call (hwith.out W3)
                    repeat still_step
                    refine wpStill_nil ?_
                    go_wp2_with fail
                    go_roundw
                    case rel =>
                      refine ⟨j + 1, by omega, by go_num, ?_, hX2.out.setCell (Nat.le_refl _) _⟩
                      have h1 := hB2.out.set_ b (.int .i64 ((1 + T1 : Nat) : Int))
                      rw [natA_set, upd_upd] at h1
                      rw [hmax.out, hval.out]
                      rw [show ((1 + T1 : Nat) : Int) = 1 + (T1 : Int) by omega] at h1
                      exact h1
                    case measure => simp [intOf]; omega
                  · have hmI : ¬ (T0 : Int) < 1 + (T1 : Int) := by omega
                    have hmI2 : decide ((T0 : Int) < 1 + (T1 : Int)) = false := decide_eq_false hmI
                    have hval := Lib.hid (show max T0 (1 + T1) = T0 by omega)
                    clear hm
                    go_wp2_with fail
                    refine wp_region_still_tail 19 (by kernel_rfl) (by kernel_rfl) ?_
                    simp only [List.take_succ_cons, List.take_zero, List.drop_succ_cons, List.drop_zero]
                    show wpStill Try.prog _ w2.drew (fun a' => wpList Try.prog _ _ _ a' w2.drew) _ _
                    generalize w2.drew = W3 at *
                    iterate 13 still_step
                    still_call (hwith.out W3)
                    repeat still_step
                    refine wpStill_nil ?_
                    go_wp2_with fail
                    go_roundw
                    case rel =>
                      refine ⟨j + 1, by omega, by go_num, ?_, hX2.out.setCell (Nat.le_refl _) _⟩
                      have h1 := hB2.out.set_ b (.int .i64 ((T0 : Nat) : Int))
                      rw [natA_set, upd_upd] at h1
                      rw [hmax.out, hval.out]
                      exact h1
                    case measure => simp [intOf]; omega
            · have hfull := Lib.hid (prt_full cs ws.length i b (by rw [hlen.out]; exact hil) h12 (hin.out i))
              have hjn : j = ws.length := by omega
              go_wp2_with fail
              go_roundw
              case rel =>
                refine ⟨b + 1, upd F b (tbl cs ws.length i b), by omega, by go_num, Lib.hid (fun y hy => ?_), Lib.hid (fun y hy => ?_), ?_, hX.out⟩
                · by_cases e : y = b
                  · rw [e, upd_same]
                  · rw [upd_ne _ _ _ e]; exact HF.out y (by omega)
                · rw [upd_ne _ _ _ (by omega)]; exact HZ.out y (by omega)
                · have h1 := hB.out
                  rw [hjn, hfull.out] at h1
                  exact h1
              case measure => simp [intOf]; omega
        · have hall : ∀ y, y < N → F y = tbl cs ws.length i y := by
            intro y hy
            by_cases hyb : y < b
            · exact HF.out y hyb
            · have hiK : i = cs.length := by rw [hlen.out]; omega
              rw [HZ.out y (by omega), hiK, tbl_end]
          have hR := Lib.hid (natA_rd hB.out hN12 (xs := rowL cs ws.length i) (by rw [rowL_len, hN.out]) (fun y hy => by rw [rowL_get, hall y (by rw [rowL_len] at hy; rw [hN.out]; exact hy)]))
          clear hall
          have hrows2 := Lib.hid (hrows.out.ext hX.out)
          obtain ⟨ds, hD, hDs, hDn, hDr⟩ := hrows2.out
          have hfz := hD.frozen i
          obtain ⟨dv, hdv⟩ : ∃ dv, ds[i]? = some dv := by
            have : i < ds.size := by rw [hDs, hlen.out]; omega
            exact ⟨_, Array.getElem?_eq_getElem this⟩
          have hcd := (hD.cell i).trans hdv
          have i0 : (0 : Int) ≤ (i : Int) := by omega
          have i1 : (i : Int) < (needs.length : Int) + 1 := by omega
          clear hD hDs hDn hDr hdv
          rcases Nat.lt_or_ge b N with hbN1 | hbN1
          · have hiK : ¬ i < needs.length := by omega
            have d1 : decide (i < needs.length) = false := by simp; omega
            go_wp2_with fail
            go_roundw
            case rel =>
              refine ⟨(i : Int) - 1, by omega, by omega, rfl, ?_, ?_⟩
              · have h1 := hR.out
                rw [hN.out] at h1 ⊢
                exact hrows2.out.put (by rw [hlen.out]; exact hi) h1
              · exact (hext.out.trans hX.out).setCell (Nat.le_refl _) _
            case measure => simp [intOf]
          · have d1 : decide (b < N) = false := by simp; omega
            go_wp2_with fail
            go_roundw
            case rel =>
              refine ⟨(i : Int) - 1, by omega, by omega, rfl, ?_, ?_⟩
              · have h1 := hR.out
                rw [hN.out] at h1 ⊢
                exact hrows2.out.put (by rw [hlen.out]; exact hi) h1
              · exact (hext.out.trans hX.out).setCell (Nat.le_refl _) _
            case measure => simp [intOf]
    · obtain rfl : t = -1 := by omega
      go_wp2_with fail
      go_ret
      exact ⟨_, rfl, ⟨w.heap.size, by rw [hlen.out]; rfl, hrows⟩, hext.out⟩
end Go.Proofs.Ythfcllefmeoicaa
