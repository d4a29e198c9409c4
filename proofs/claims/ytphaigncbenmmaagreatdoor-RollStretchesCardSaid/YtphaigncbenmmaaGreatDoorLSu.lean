/- RollStretches says yes of every roll: the walk. -/
import Derived.Test.YtphaigncbenmmaaGreatDoorLSt
import Derived.Deep.RegionHeld3
import Derived.Deep.DrawnRows
namespace Go.Proofs.YtphaigncbenmmaaGreatDoor
open Go Go.RowKit
attribute [local go_sem ↓] Go.wp_at_zero Go.wp_at_succ

set_option maxRecDepth 20000 in
set_option maxHeartbeats 1000000 in
theorem c_stretchesLaw (r : Ro) (v : Value) (w : World) (ht : Tab w) (h : RdO w v r) : Calls Tryz.prog 7 #[v] w fun e w' => e = .returned (.bool true) ∧ Ext w w' := by
  obtain ⟨fv, rfl, h⟩ := h
  obtain ⟨Af, cf, rfl⟩ := h.slice
  replace h := Lib.hid h
  replace ht := Lib.hid ht
  have hcf := fun w h => c_few r (.slice Af r.fl.length cf) w h
  have hcs := fun n w h1 h2 => c_stretches r (.slice Af r.fl.length cf) n w h1 h2
  have hcr := fun w h1 h2 => c_rcheck r (.slice Af r.fl.length cf) w h1 h2
  unfold roV at hcf hcs hcr ⊢
  replace hcf := Lib.hid hcf
  replace hcs := Lib.hid hcs
  replace hcr := Lib.hid hcr
  go_enter Tryz.func7, Tryz.ntmps7
  go_wp2_with fail
  refine (hcf.out _ (h.out.ext ((Ext.refl w).alloc _))).mono ?_
  rintro e w1 ⟨rfl, hx⟩
  have hb1 := (Blk.new w 26 (roC r (.slice Af r.fl.length cf)).toArray).ext hx
  have hE1 := Lib.hid (((Ext.refl w).alloc (.cells (roC r (.slice Af r.fl.length cf)).toArray 26)).trans hx)
  clear hx
  obtain ⟨q0, q1, q2, q3, q4, q5, q6⟩ := hb1.parts7
  have hlt1 := hb1.lt
  replace hb1 := Lib.hid hb1
  rcases hf : few1 r with _ | _
  · go_wp2_with fail
    refine (c_example _ (ht.out.ext hE1.out)).mono ?_
    rintro e w2 ⟨rfl, hx⟩
    replace hx := Lib.hid hx
    go_wp2
    go_ret
    exact ⟨rfl, hE1.out.trans hx.out⟩
  have hid : r.id.length ≤ 30000 := by
    have := of_decide_eq_true (show decide (r.fl.length ≤ 30 ∧ r.id.length ≤ 100) = true from hf)
    omega
  replace hf := Lib.hid hf
  by_cases h1000 : 1000 < r.len
  · go_wp2_with fail
    refine (c_example _ (ht.out.ext hE1.out)).mono ?_
    rintro e w2 ⟨rfl, hx⟩
    replace hx := Lib.hid hx
    go_wp2
    go_ret
    exact ⟨rfl, hE1.out.trans hx.out⟩
  go_wp2_with fail
  refine (hcr.out _ (h.out.ext hE1.out) hid).mono ?_
  rintro e w2 ⟨rfl, hx⟩
  have hE2 := Lib.hid (hE1.out.trans hx)
  have hb2 := hb1.out.ext hx
  clear hx q0 q1 q2 q3 q4 q5 q6 hlt1
  obtain ⟨q0, q1, q2, q3, q4, q5, q6⟩ := hb2.parts7
  have hlt2 := hb2.lt
  replace hb2 := Lib.hid hb2
  by_cases hck : check r = 0
  rotate_left
  · have hn0 : (check r == 0) = false := by simp; exact hck
    have hn1 : (check r != 0) = true := bne_iff_ne.2 hck
    replace hck := Lib.hid hck
    go_wp2_with fail
    refine (c_example _ (ht.out.ext hE2.out)).mono ?_
    rintro e w3 ⟨rfl, hx⟩
    replace hx := Lib.hid hx
    go_wp2
    go_ret
    exact ⟨rfl, hE2.out.trans hx.out⟩
  rw [hck]
  have hv := Lib.hid (check_ok hck)
  have hle := hv.out.len
  have hst := Lib.hid (strP_one hck)
  have hgd := Lib.hid (zones_good (by omega : (0 : Int) ≤ r.len) hv.out.fits)
  replace hck := Lib.hid hck
  go_wp2_with fail
  refine (hcs.out 1 _ (h.out.ext hE2.out) hid).mono ?_
  intro e w3 he
  obtain ⟨Az, cz, rfl, hz3, hx⟩ := he.open_ hst.out
  clear he q0 q1 q2 q3 q4 q5 q6 hlt2
  have hE3 := Lib.hid (hE2.out.trans hx)
  have hb3 := Lib.hid (hb2.out.ext hx)
  clear hx
  obtain ⟨zs, hzs⟩ : ∃ zs, zs = zones r.len r.fl := ⟨_, rfl⟩
  rw [← hzs] at hz3 hgd ⊢
  clear hzs
  obtain ⟨Az', cz', e2, hcap, hmax, hc⟩ := hz3
  injection e2 with e3 _ e4
  subst e3 e4
  unfold maxLen at hmax
  replace hc := Lib.hid hc
  go_wp2
  go_loopw [32] (fun i wr => ∃ k : Nat, k ≤ zs.length ∧ i = .int .i64 (k : Nat) ∧ Ext w3 wr) (fun i _ => zs.length - (intOf i).toNat)
  case atStart => exact ⟨0, Nat.zero_le _, rfl, Ext.refl _⟩
  case round =>
    obtain ⟨k, hk, rfl, hX⟩ := hrel
    have hbr := hb3.out.ext hX
    have q2 : wr.cell? ⟨w.heap.size, 2, none⟩ = some (.int .i64 r.len) := hbr.cell 2
    have hltr := hbr.lt
    replace hbr := Lib.hid hbr
    by_cases hlt : k < zs.length
    · obtain ⟨b, o, rfl, c0, c1⟩ := hc.out k hlt
      have g1 := hgd.out.lo _ (List.getElem_mem hlt)
      have g2 := hgd.out.hi _ (List.getElem_mem hlt)
      have g3 := hgd.out.sep.2 _ (List.getElem_mem hlt)
      have hpr := Lib.hid (fun j (hj : j < zs.length) (hjk : j < k) => sep_lt hgd.out.sep hj hlt hjk)
      obtain ⟨z, hz⟩ : ∃ z, z = zs[k] := ⟨_, rfl⟩
      rw [← hz] at c0 c1 g1 g2 g3 hpr
      clear hz
      replace c0 := hX.cell c0
      replace c1 := hX.cell c1
      have hki : (k : Int) < zs.length := by omega
      have d1 : decide (z.1 < 0) = false := decide_eq_false (by omega)
      have d2 : decide (z.2 ≤ z.1) = false := decide_eq_false (by omega)
      have d3 : decide (r.len < z.2) = false := decide_eq_false (by omega)
      by_cases hk0 : k = 0
      · subst hk0
        replace hX := Lib.hid hX
        have d4 : decide ((0 : Int) < 0) = false := by decide
        rw [Nat.zero_mul, Nat.add_zero] at c0 c1
        go_wp2_with fail
        go_quiet (fail)
        go_wp2
        go_roundw
        case rel => exact ⟨1, by omega, by go_num, (hX.out.alloc _).drewN _⟩
        case measure => simp [intOf]; omega
      · obtain ⟨m, hm⟩ : ∃ m, m + 1 = k := ⟨k - 1, by omega⟩
        have hml : m < zs.length := by omega
        obtain ⟨b', o', e', _, c1'⟩ := hc.out m hml
        injection e' with e'
        injection e' with e5 e6 _
        subst e5 e6
        replace c1' := hX.cell c1'
        have lb9 : b < wr.heap.size := World.block_lt_of_cell? _ _ c1'
        have hlo := hpr.out m hml (by omega)
        obtain ⟨y, hy⟩ : ∃ y, y = zs[m].2 := ⟨_, rfl⟩
        rw [← hy] at hlo c1'
        clear hy
        have d4 : decide ((0 : Int) < (k : Int)) = true := decide_eq_true (by omega)
        have d4a : (0 : Int) < (k : Int) := by omega
        have d4b : 0 < k := by omega
        have d4c : decide (0 < k) = true := decide_eq_true (by omega)
        have d5 : decide (z.1 ≤ y) = false := decide_eq_false (by omega)
        have hkl2 : (m : Int) < zs.length := by omega
        have hm0 : (0 : Int) ≤ m := by omega
        have hwr : IntKind.i64.wrap ((k : Int) - 1) = (m : Int) := (IntWalk.i64_in _ (by omega)).trans (by omega)
        have hkw : IntKind.i64.wrap ((k : Int) + 1) = (k : Int) + 1 := IntWalk.i64_in _ (by omega)
        replace hX := Lib.hid hX
        replace hm := Lib.hid hm
        go_wp2_with fail
        go_quiet (fail)
        go_wp2
        go_roundw
        case rel => exact ⟨k + 1, by omega, by go_num, (hX.out.alloc _).drewN _⟩
        case measure => simp [intOf]; omega
    · have hki : ¬ (k : Int) < zs.length := by omega
      replace hX := Lib.hid hX
      clear q2 hltr hbr
      obtain ⟨n, hn⟩ : ∃ n : Nat, r.len = n := ⟨r.len.toNat, by omega⟩
      go_wp2
      go_loopw [7, 8] (fun a i wr => ∃ x k2 : Nat, x ≤ n ∧ a = .int .i64 (k2 : Nat) ∧ i = .int .i64 (x : Nat) ∧ AtUp zs x k2 ∧ Ext w3 wr) (fun _ i _ => n - (intOf i).toNat)
      case atStart => exact ⟨0, 0, Nat.zero_le _, rfl, rfl, ⟨Nat.zero_le _, fun j _ h => absurd h (by omega)⟩, hX.out⟩
      case round =>
        obtain ⟨x, k0, hxn, rfl, rfl, hup, hX1⟩ := hrel
        have hbr := hb3.out.ext hX1
        have q2 : wr.cell? ⟨w.heap.size, 2, none⟩ = some (.int .i64 r.len) := hbr.cell 2
        have hltr := hbr.lt
        replace hbr := Lib.hid hbr
        by_cases hxl : x < n
        · have hxi : (x : Int) < r.len := by omega
          replace hX1 := Lib.hid hX1
          go_wp2
          clear q2 hltr hbr
          go_loopw [7] (fun a wr => ∃ k2 : Nat, a = .int .i64 (k2 : Nat) ∧ AtUp zs x k2 ∧ Ext w3 wr) (fun a _ => zs.length - (intOf a).toNat)
          case atStart => exact ⟨k0, rfl, hup, hX1.out⟩
          case round =>
            obtain ⟨k2, rfl, hup2, hX2⟩ := hrel
            have hk2 := hup2.le
            have hbr := hb3.out.ext hX2
            obtain ⟨q0, q1, q2, q3, q4, q5, q6⟩ := hbr.parts7
            have hltr := hbr.lt
            replace hbr := Lib.hid hbr
            have hN : wr.heap.size ≤ wr.heap.size := Nat.le_refl _
            have hEr := Lib.hid (hE3.out.trans hX2)
            have hcov := Lib.hid (hgd.out.cov (x : Int) (by omega) (by omega))
            have hcb := Lib.hid (covB_iff r.fl (x : Int))
            by_cases hk2l : k2 < zs.length
            · obtain ⟨b, o, rfl, c0, c1⟩ := hc.out k2 hk2l
              have hin := Lib.hid (fun hz => hup2.inZ hgd.out.sep hz)
              have hnx := Lib.hid (fun h => hup2.next hk2l h)
              obtain ⟨z, hz⟩ : ∃ z, z = zs[k2] := ⟨_, rfl⟩
              rw [← hz] at c0 c1 hnx
              replace c0 := hX2.cell c0
              replace c1 := hX2.cell c1
              have hlb := World.block_lt_of_cell? _ _ c0
              have hki2 : (k2 : Int) < zs.length := by omega
              replace hX2 := Lib.hid hX2
              by_cases hz2 : z.2 ≤ (x : Int)
              · have hup3 := Lib.hid (hnx.out hz2)
                replace hz := Lib.hid hz
                go_wp2
                go_roundw
                case rel => exact ⟨k2 + 1, by go_num, hup3.out, hX2.out⟩
                case measure => simp [intOf]; omega
              · by_cases hz1 : z.1 ≤ (x : Int)
                · have hcv := Lib.hid (show covB r.fl (x : Int) = false by
                    cases e : covB r.fl (x : Int) with
                    | false => rfl
                    | true => exact absurd (hcb.out.1 e) (hcov.out.1 ((hin.out (fun _ => by rw [← hz]; exact hz2)).1 ⟨hk2l, by rw [← hz]; exact hz1⟩)))
                  replace hz := Lib.hid hz
                  have d1 : decide (z.1 ≤ (x : Int)) = true := decide_eq_true hz1
                  have d2 : decide ((k2 : Int) < zs.length) = true := decide_eq_true hki2
                  have hcc := Lib.hid (fun w h => c_covered r (.slice Af r.fl.length cf) (x : Int) w h hv.out)
                  unfold roV at hcc
                  rw [hcv.out, hn] at hcc
                  go_wp2_with fail
                  go_region_held3 (fun w' => (∀ b o, b < wr.heap.size → w'.cell? ⟨b, o, none⟩ = wr.cell? ⟨b, o, none⟩) ∧ Kp wr.heap.size wr w')
                    (first
                      | exact (Kp.start hN).drew.both
                      | (go_split_ands; exact ((by assumption : Kp _ _ _).call he).both)
                      | assumption)
                    (first
                      | (go_at_call 22; go_split_ands; with_reducible refine (hcc.out _ (h.out.ext ((by assumption : Kp _ _ _).ext hEr.out hEr.out.size))).mono ?_; rintro e w2 ⟨rfl, he⟩))
                  go_split_ands
                  have hfin := Lib.hid ((by assumption : Kp _ _ w2).ext (Ext.refl wr) (Nat.le_refl _))
                  clear he
                  go_wp2
                  go_roundw
                  case rel => exact ⟨x + 1, k2, by omega, rfl, by go_num, hup2.mono (by omega), hX2.out.trans hfin.out⟩
                  case measure => simp [intOf]; omega
                · have hcv := Lib.hid (show covB r.fl (x : Int) = true by
                    cases e : covB r.fl (x : Int) with
                    | true => rfl
                    | false =>
                      have h1 : ¬ Cov r.fl (x : Int) := fun h => by rw [hcb.out.2 h] at e; cases e
                      obtain ⟨_, h2⟩ := (hin.out (fun _ => by rw [← hz]; exact hz2)).2 (hcov.out.2 h1)
                      rw [← hz] at h2
                      exact absurd h2 hz1)
                  replace hz := Lib.hid hz
                  have d1 : decide (z.1 ≤ (x : Int)) = false := decide_eq_false hz1
                  have d2 : decide ((k2 : Int) < zs.length) = true := decide_eq_true hki2
                  have hcc := Lib.hid (fun w h => c_covered r (.slice Af r.fl.length cf) (x : Int) w h hv.out)
                  unfold roV at hcc
                  rw [hcv.out, hn] at hcc
                  go_wp2_with fail
                  go_region_held3 (fun w' => (∀ b o, b < wr.heap.size → w'.cell? ⟨b, o, none⟩ = wr.cell? ⟨b, o, none⟩) ∧ Kp wr.heap.size wr w')
                    (first
                      | exact (Kp.start hN).drew.both
                      | (go_split_ands; exact ((by assumption : Kp _ _ _).call he).both)
                      | assumption)
                    (first
                      | (go_at_call 22; go_split_ands; with_reducible refine (hcc.out _ (h.out.ext ((by assumption : Kp _ _ _).ext hEr.out hEr.out.size))).mono ?_; rintro e w2 ⟨rfl, he⟩))
                  go_split_ands
                  have hfin := Lib.hid ((by assumption : Kp _ _ w2).ext (Ext.refl wr) (Nat.le_refl _))
                  clear he
                  go_wp2
                  go_roundw
                  case rel => exact ⟨x + 1, k2, by omega, rfl, by go_num, hup2.mono (by omega), hX2.out.trans hfin.out⟩
                  case measure => simp [intOf]; omega
            · have hki2 : ¬ (k2 : Int) < zs.length := by omega
              have d2 : decide ((k2 : Int) < zs.length) = false := decide_eq_false hki2
              have hcv := Lib.hid (show covB r.fl (x : Int) = true by
                cases e : covB r.fl (x : Int) with
                | true => rfl
                | false =>
                  have h1 : ¬ Cov r.fl (x : Int) := fun h => by rw [hcb.out.2 h] at e; cases e
                  obtain ⟨h2, _⟩ := (hup2.inZ hgd.out.sep (fun h => absurd h hk2l)).2 (hcov.out.2 h1)
                  exact absurd h2 hk2l)
              replace hX2 := Lib.hid hX2
              have hcc := Lib.hid (fun w h => c_covered r (.slice Af r.fl.length cf) (x : Int) w h hv.out)
              unfold roV at hcc
              rw [hcv.out, hn] at hcc
              go_wp2_with fail
              refine wp_region_held_drew (S := fun w' => (∀ b o, b < wr.heap.size → w'.cell? ⟨b, o, none⟩ = wr.cell? ⟨b, o, none⟩) ∧ Kp wr.heap.size wr w') (by kernel_rfl) ((Kp.start hN).drew.both) (fun hHeld => ?_)
              refine wpAnyH_take (i := 0) (oi := ⟨some 91, _, _, _, _, _⟩) (v := ?_) rfl (by kernel_rfl) (by kernel_rfl) (by kernel_rfl) (fun _ _ _ h => h) (Or.inl ⟨by rfl, ?_⟩) hHeld ?_
              rotate_left
              · intro w hSw; go_simp; try with_reducible rfl
              try simp only [Act.put, List.setIfInBounds_toArray, List.set_cons_zero, List.set_cons_succ]
              refine wpAnyH_take (i := 1) (oi := ⟨some 92, _, _, _, _, _⟩) (v := ?_) rfl (by kernel_rfl) (by kernel_rfl) (by kernel_rfl) (fun _ _ _ h => h) (Or.inl ⟨by rfl, ?_⟩) hHeld ?_
              rotate_left
              · intro w hSw; go_simp; try with_reducible rfl
              try simp only [Act.put, List.setIfInBounds_toArray, List.set_cons_zero, List.set_cons_succ]
              refine wpAnyH_take (i := 2) (oi := ⟨some 93, _, _, _, _, _⟩) (v := ?_) rfl (by kernel_rfl) (by kernel_rfl) (by kernel_rfl) (fun _ _ _ h => h) (Or.inl ⟨by rfl, ?_⟩) hHeld ?_
              rotate_left
              · intro w hSw; go_simp; try with_reducible rfl
              try simp only [Act.put, List.setIfInBounds_toArray, List.set_cons_zero, List.set_cons_succ]
              refine wpAnyH_take (i := 3) (oi := ⟨some 94, _, _, _, _, _⟩) (v := .bool false) rfl (by kernel_rfl) (by kernel_rfl) (by kernel_rfl) (fun _ _ _ h => h) (Or.inl ⟨by rfl, by intro w hSw; go_simp⟩) hHeld ?_
              try simp only [Act.put, List.setIfInBounds_toArray, List.set_cons_zero, List.set_cons_succ]
              refine wpAnyH_take (i := 4) (oi := ⟨some 95, _, _, _, _, _⟩) (v := .bool false) rfl (by kernel_rfl) (by kernel_rfl) (by kernel_rfl) (fun _ _ _ h => h) (Or.inl ⟨by rfl, by intro w hSw; go_simp⟩) hHeld ?_
              try simp only [Act.put, List.setIfInBounds_toArray, List.set_cons_zero, List.set_cons_succ]
              refine wpAnyH_take (i := 5) (oi := ⟨some 96, _, _, _, _, _⟩) (v := undef) rfl (by kernel_rfl) (by kernel_rfl) (by kernel_rfl) (fun _ _ _ h => h) (Or.inr ⟨by kernel_rfl, rfl⟩) hHeld ?_
              try simp only [Act.put, List.setIfInBounds_toArray, List.set_cons_zero, List.set_cons_succ]
              refine wpAnyH_take (i := 6) (oi := ⟨some 97, _, _, _, _, _⟩) (v := undef) rfl (by kernel_rfl) (by kernel_rfl) (by kernel_rfl) (fun _ _ _ h => h) (Or.inr ⟨by kernel_rfl, rfl⟩) hHeld ?_
              try simp only [Act.put, List.setIfInBounds_toArray, List.set_cons_zero, List.set_cons_succ]
              refine wpAnyH_take (i := 7) (oi := ⟨some 98, _, _, _, _, _⟩) (v := undef) rfl (by kernel_rfl) (by kernel_rfl) (by kernel_rfl) (fun _ _ _ h => h) (Or.inr ⟨by kernel_rfl, rfl⟩) hHeld ?_
              try simp only [Act.put, List.setIfInBounds_toArray, List.set_cons_zero, List.set_cons_succ]
              refine wpAnyH_take (i := 8) (oi := ⟨some 99, _, _, _, _, _⟩) (v := undef) rfl (by kernel_rfl) (by kernel_rfl) (by kernel_rfl) (fun _ _ _ h => h) (Or.inr ⟨by kernel_rfl, rfl⟩) hHeld ?_
              try simp only [Act.put, List.setIfInBounds_toArray, List.set_cons_zero, List.set_cons_succ]
              refine wpAnyH_take (i := 9) (oi := ⟨some 100, _, _, _, _, _⟩) (v := undef) rfl (by kernel_rfl) (by kernel_rfl) (by kernel_rfl) (fun _ _ _ h => h) (Or.inr ⟨by kernel_rfl, rfl⟩) hHeld ?_
              try simp only [Act.put, List.setIfInBounds_toArray, List.set_cons_zero, List.set_cons_succ]
              refine wpAnyH_take (i := 10) (oi := ⟨some 101, _, _, _, _, _⟩) (v := undef) rfl (by kernel_rfl) (by kernel_rfl) (by kernel_rfl) (fun _ _ _ h => h) (Or.inr ⟨by kernel_rfl, rfl⟩) hHeld ?_
              try simp only [Act.put, List.setIfInBounds_toArray, List.set_cons_zero, List.set_cons_succ]
              refine wpAnyH_take (i := 11) (oi := ⟨some 102, _, _, _, _, _⟩) (v := undef) rfl (by kernel_rfl) (by kernel_rfl) (by kernel_rfl) (fun _ _ _ h => h) (Or.inr ⟨by kernel_rfl, rfl⟩) hHeld ?_
              try simp only [Act.put, List.setIfInBounds_toArray, List.set_cons_zero, List.set_cons_succ]
              refine wpAnyH_take (i := 12) (oi := ⟨some 103, _, _, _, _, _⟩) (v := .bool false) rfl (by kernel_rfl) (by kernel_rfl) (by kernel_rfl) (fun _ _ _ h => h) (Or.inl ⟨by rfl, by intro w hSw; go_simp⟩) hHeld ?_
              try simp only [Act.put, List.setIfInBounds_toArray, List.set_cons_zero, List.set_cons_succ]
              refine wpAnyH_take (i := 13) (oi := ⟨some 104, _, _, _, _, _⟩) (v := ?_) rfl (by kernel_rfl) (by kernel_rfl) (by kernel_rfl) (fun _ _ _ h => h) (Or.inl ⟨by rfl, ?_⟩) hHeld ?_
              rotate_left
              · intro w hSw; go_simp; try with_reducible rfl
              try simp only [Act.put, List.setIfInBounds_toArray, List.set_cons_zero, List.set_cons_succ]
              refine wpAnyH_take (i := 14) (oi := ⟨some 105, _, _, _, _, _⟩) (v := ?_) rfl (by kernel_rfl) (by kernel_rfl) (by kernel_rfl) (fun _ _ _ h => h) (Or.inl ⟨by rfl, ?_⟩) hHeld ?_
              rotate_left
              · intro w hSw; go_simp; try with_reducible rfl
              try simp only [Act.put, List.setIfInBounds_toArray, List.set_cons_zero, List.set_cons_succ]
              refine wpAnyH_ready (rs := [15]) (by kernel_rfl) (by simp) (AllReadyH.cons (o := ⟨some 106, _, _, _, _, _⟩) rfl (fun K hK => ?_) AllReadyH.nil)
              go_simp
              refine (hcc.out _ (h.out.ext (hEr.out.trans (hHeld.2.ext (Ext.refl _) (Nat.le_refl _))))).mono ?_
              rintro e w2 ⟨rfl, he⟩
              go_wp2_with fail
              refine hK.out _ _ ((hHeld.2.call he).both) (fun hHeld => ?_)
              clear hK K
              try simp only [Act.put, List.setIfInBounds_toArray, List.set_cons_zero, List.set_cons_succ]
              refine wpAnyH_take (i := 16) (oi := ⟨some 107, _, _, _, _, _⟩) (v := .bool false) rfl (by kernel_rfl) (by kernel_rfl) (by kernel_rfl) (fun _ _ _ h => h) (Or.inl ⟨by rfl, by intro w hSw; go_simp⟩) hHeld ?_
              try simp only [Act.put, List.setIfInBounds_toArray, List.set_cons_zero, List.set_cons_succ]
              refine wpAnyH_done (by kernel_rfl) ?_ _
              have hfin := Lib.hid (hHeld.2.ext (Ext.refl _) (Nat.le_refl _))
              clear hHeld
              clear he
              go_wp2
              go_roundw
              case rel => exact ⟨x + 1, k2, by omega, rfl, by go_num, hup2.mono (by omega), hX2.out.trans hfin.out⟩
              case measure => simp [intOf]; omega
        · have hxi : ¬ (x : Int) < r.len := by omega
          have hEf := Lib.hid (hE3.out.trans hX1)
          replace hX1 := Lib.hid hX1
          go_wp2_with fail
          refine (c_example _ (ht.out.ext hEf.out)).mono ?_
          rintro e w4 ⟨rfl, hx⟩
          replace hx := Lib.hid hx
          go_wp2
          go_ret
          exact ⟨rfl, hEf.out.trans hx.out⟩

end Go.Proofs.YtphaigncbenmmaaGreatDoor
