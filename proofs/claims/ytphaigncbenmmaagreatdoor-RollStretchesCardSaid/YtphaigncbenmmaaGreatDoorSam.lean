/- Same of the reference says yes of one list of rolls read twice. -/
import Derived.Test.YtphaigncbenmmaaGreatDoorBase
import Derived.BigRegion
namespace Go.Proofs.YtphaigncbenmmaaGreatDoor
open Go Go.RowKit

set_option maxHeartbeats 4000000 in
theorem c_same (v v' : Value) (l : List Ro) (w : World) (h : RdR w v l) (h' : RdR w v' l) : Calls Tryz.prog 15 #[v, v'] w fun e w' => e = .returned (.bool true) ∧ Ext w w' := by
  obtain ⟨A, c, rfl, hcap, hmax, hc⟩ := h
  obtain ⟨A', c', rfl, hcap', hmax', hc'⟩ := h'
  unfold maxLen at hmax hmax'
  replace hc := Lib.hid hc
  replace hc' := Lib.hid hc'
  go_enter Tryz.func15, Tryz.ntmps15
  go_wp2
  go_loopw [5] (fun i wr => ∃ k : Nat, k ≤ l.length ∧ i = .int .i64 (k : Nat) ∧ Ext w wr) (fun i _ => l.length - (intOf i).toNat)
  case atStart => exact ⟨0, Nat.zero_le _, rfl, Ext.refl _⟩
  case round =>
    obtain ⟨k, hk, rfl, hX⟩ := hrel
    by_cases hlt : k < l.length
    · obtain ⟨b, o, fv, rfl, hf, c0, c1, c2, c3, c4, c5, c6⟩ := hc.out k hlt
      obtain ⟨b', o', fv', rfl, hf', c0', c1', c2', c3', c4', c5', c6'⟩ := hc'.out k hlt
      obtain ⟨Af, cf, rfl⟩ := hf.slice
      obtain ⟨Af', cf', rfl⟩ := hf'.slice
      obtain ⟨r, hr⟩ : ∃ r, r = l[k] := ⟨_, rfl⟩
      rw [← hr] at hf hf' c0 c1 c2 c3 c4 c5 c6 c0' c1' c2' c3' c4' c5' c6'
      clear hr
      replace c0 := hX.cell c0
      replace c1 := hX.cell c1
      replace c2 := hX.cell c2
      replace c3 := hX.cell c3
      replace c4 := hX.cell c4
      replace c5 := hX.cell c5
      replace c6 := hX.cell c6
      replace c0' := hX.cell c0'
      replace c1' := hX.cell c1'
      replace c2' := hX.cell c2'
      replace c3' := hX.cell c3'
      replace c4' := hX.cell c4'
      replace c5' := hX.cell c5'
      replace c6' := hX.cell c6'
      have l1 := World.block_lt_of_cell? _ _ c0
      have l2 := World.block_lt_of_cell? _ _ c0'
      replace hf := Lib.hid (hf.ext hX)
      replace hf' := Lib.hid (hf'.ext hX)
      replace hX := Lib.hid hX
      have hki : (k : Int) < l.length := by omega
      go_wp2_with fail
      go_region
      focus
        obtain ⟨w1, hw1⟩ : ∃ w1, w1 = ((wr.alloc (.cells (roC r (.slice Af r.fl.length cf)).toArray 26)).alloc (.cells (roC r (.slice Af' r.fl.length cf')).toArray 26)).drew := ⟨_, rfl⟩
        have hx := Lib.hid (show Blk w1 wr.heap.size 26 (roC r (.slice Af r.fl.length cf)).toArray from hw1 ▸ ((Blk.new wr 26 _).alloc _).drew)
        have hy := Lib.hid (show Blk w1 (wr.heap.size + 1) 26 (roC r (.slice Af' r.fl.length cf')).toArray from hw1 ▸ (Blk.at (by simp)).drew)
        have hE := Lib.hid (show Ext wr w1 from hw1 ▸ (((Ext.refl wr).alloc _).alloc _).drew)
        unfold roC at hw1
        rw [← hw1]
        clear hw1
      rotate_left
      focus
        obtain ⟨w1, hw1⟩ : ∃ w1, w1 = ((wr.alloc (.cells (roC r (.slice Af' r.fl.length cf')).toArray 26)).alloc (.cells (roC r (.slice Af r.fl.length cf)).toArray 26)).drew := ⟨_, rfl⟩
        have hx := Lib.hid (show Blk w1 (wr.heap.size + 1) 26 (roC r (.slice Af r.fl.length cf)).toArray from hw1 ▸ (Blk.at (by simp)).drew)
        have hy := Lib.hid (show Blk w1 wr.heap.size 26 (roC r (.slice Af' r.fl.length cf')).toArray from hw1 ▸ ((Blk.new wr 26 _).alloc _).drew)
        have hE := Lib.hid (show Ext wr w1 from hw1 ▸ (((Ext.refl wr).alloc _).alloc _).drew)
        unfold roC at hw1
        rw [← hw1]
        clear hw1
      all_goals
        clear c0 c1 c2 c3 c4 c5 c6 c0' c1' c2' c3' c4' c5' c6' l1 l2
        obtain ⟨p0, p1, p2, p3, p4, p5, p6⟩ := hx.out.parts7
        obtain ⟨q0, q1, q2, q3, q4, q5, q6⟩ := hy.out.parts7
        have lx := hx.out.lt
        have ly := hy.out.lt
        go_wp2
        replace p6 := Lib.hid p6
        replace q6 := Lib.hid q6
        clear p0 p1 p2 p3 p4 p5 q0 q1 q2 q3 q4 q5 lx ly
        obtain ⟨Ag, cg, eg, hg1, hg2, _, hgc⟩ := hf.out
        injection eg with e1 _ e2
        subst e1 e2
        obtain ⟨Ag', cg', eg', hg1', hg2', _, hgc'⟩ := hf'.out
        injection eg' with e1 _ e2
        subst e1 e2
        unfold maxLen at hg2 hg2'
        replace hgc := Lib.hid hgc
        replace hgc' := Lib.hid hgc'
        go_loopw [8] (fun i wr' => ∃ j : Nat, j ≤ r.fl.length ∧ i = .int .i64 (j : Nat) ∧ Ext w1 wr') (fun i _ => r.fl.length - (intOf i).toNat)
        case atStart => exact ⟨0, Nat.zero_le _, rfl, Ext.refl _⟩
        case round =>
          obtain ⟨j, hj, rfl, hX2⟩ := hrel
          have q6 := hX2.cell q6.out
          have p6 := hX2.cell p6.out
          by_cases hjl : j < r.fl.length
          · obtain ⟨b3, o3, rfl, d0, d1, d2, d3⟩ := hgc.out j hjl
            obtain ⟨b4, o4, rfl, d0', d1', d2', d3'⟩ := hgc'.out j hjl
            have hw := hE.out.trans hX2
            replace d0 := hw.cell d0
            replace d1 := hw.cell d1
            replace d2 := hw.cell d2
            replace d3 := hw.cell d3
            replace d0' := hw.cell d0'
            replace d1' := hw.cell d1'
            replace d2' := hw.cell d2'
            replace d3' := hw.cell d3'
            replace hw := Lib.hid hw
            replace hX2 := Lib.hid hX2
            have hji : (j : Int) < r.fl.length := by omega
            go_wp2_with fail
            go_quiet (fail)
            go_wp2
            go_roundw
            case rel => exact ⟨j + 1, by omega, by go_num, hX2.out.drewN _⟩
            case measure => simp [intOf]; omega
          · replace hX2 := Lib.hid hX2
            go_wp2
            go_roundw
            case rel => exact ⟨k + 1, by omega, by go_num, hX.out.trans (hE.out.trans hX2.out)⟩
            case measure => simp [intOf]; omega
    · replace hX := Lib.hid hX
      go_wp2
      go_ret
      exact ⟨rfl, hX.out⟩

end Go.Proofs.YtphaigncbenmmaaGreatDoor
