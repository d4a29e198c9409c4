/- Same of the reference says yes of one marker read twice. -/
import Derived.Test.YtmbjlbmfagfneaaDoorPri
namespace Go.Proofs.YtmbjlbmfagfneaaDoor
open Go Go.RowKit

set_option maxHeartbeats 1000000 in
theorem c_same (m : Mk) (v v' : Value) (w : World) (h : RdM w v m) (h' : RdM w v' m) : Calls Tryd.prog 15 #[v, v'] w fun e w' => e = .returned (.bool true) ∧ Ext w w' := by
  obtain ⟨sv, pv, rfl, hsv, hpv⟩ := h
  obtain ⟨sv', pv', rfl, hsv', hpv'⟩ := h'
  obtain ⟨As, cs, rfl, hs1, hs2, hsc⟩ := hsv
  obtain ⟨As', cs', rfl, hs1', hs2', hsc'⟩ := hsv'
  obtain ⟨Ap, cp, rfl, hp1, hp2, hpc⟩ := hpv
  obtain ⟨Ap', cp', rfl, hp1', hp2', hpc'⟩ := hpv'
  unfold maxLen at hs2 hs2' hp2 hp2'
  replace hsc := Lib.hid hsc
  replace hsc' := Lib.hid hsc'
  replace hpc := Lib.hid hpc
  replace hpc' := Lib.hid hpc'
  unfold mkV
  go_enter Tryd.func15, Tryd.ntmps15
  go_wp2
  obtain ⟨w1, hw1⟩ : ∃ w1, w1 = (w.alloc (.cells (mkA m (.slice As m.sizes.length cs) (.slice Ap m.places.length cp)) 27)).alloc (.cells (mkA m (.slice As' m.sizes.length cs') (.slice Ap' m.places.length cp')) 27) := ⟨_, rfl⟩
  have hb := Lib.hid (show Blk w1 w.heap.size 27 (mkA m (.slice As m.sizes.length cs) (.slice Ap m.places.length cp)) from hw1 ▸ (Blk.new w 27 _).alloc _)
  have hb' := Lib.hid (show Blk w1 (w.heap.size + 1) 27 (mkA m (.slice As' m.sizes.length cs') (.slice Ap' m.places.length cp')) from hw1 ▸ Blk.at (by simp))
  have hE := Lib.hid (show Ext w w1 from hw1 ▸ ((Ext.refl w).alloc _).alloc _)
  unfold mkA at hw1
  rw [← hw1]
  clear hw1
  go_loopw [5] (fun i wr => ∃ k : Nat, k ≤ m.sizes.length ∧ i = .int .i64 (k : Nat) ∧ Ext w1 wr) (fun i _ => m.sizes.length - (intOf i).toNat)
  case atStart => exact ⟨0, Nat.zero_le _, rfl, Ext.refl _⟩
  case round =>
    obtain ⟨k, hk, rfl, hX⟩ := hrel
    have q4 : wr.cell? ⟨w.heap.size, 4, none⟩ = _ := hX.cell (hb.out.parts6.1.2.2.2.2.1)
    have q4' : wr.cell? ⟨w.heap.size + 1, 4, none⟩ = _ := hX.cell (hb'.out.parts6.1.2.2.2.2.1)
    by_cases hlt : k < m.sizes.length
    · obtain ⟨b, o, rfl, c0⟩ := hsc.out k hlt
      obtain ⟨b', o', rfl, c0'⟩ := hsc'.out k hlt
      replace c0 := (hE.out.trans hX).cell c0
      replace c0' := (hE.out.trans hX).cell c0'
      replace hX := Lib.hid hX
      have hki : (k : Int) < m.sizes.length := by omega
      go_wp2_with fail
      go_quiet (fail)
      go_wp2
      go_roundw
      case rel => exact ⟨k + 1, by omega, by go_num, hX.out.drewN _⟩
      case measure => simp [intOf]; omega
    · go_wp2_with fail
      replace hX := Lib.hid hX
      clear q4 q4'
      go_loopw [6] (fun i wr' => ∃ k : Nat, k ≤ m.places.length ∧ i = .int .i64 (k : Nat) ∧ Ext w1 wr') (fun i _ => m.places.length - (intOf i).toNat)
      case atStart => exact ⟨0, Nat.zero_le _, rfl, hX.out⟩
      case round =>
        obtain ⟨k2, hk2, rfl, hX2⟩ := hrel
        have q5 := hX2.cell (hb.out.parts6.1.2.2.2.2.2)
        have q5' := hX2.cell (hb'.out.parts6.1.2.2.2.2.2)
        by_cases hlt2 : k2 < m.places.length
        · obtain ⟨b, o, rfl, c0, c1, c2, c3, c4, c5, c6⟩ := hpc.out k2 hlt2
          obtain ⟨b', o', rfl, c0', c1', c2', c3', c4', c5', c6'⟩ := hpc'.out k2 hlt2
          have hw := hE.out.trans hX2
          replace c0 := hw.cell c0
          replace c1 := hw.cell c1
          replace c2 := hw.cell c2
          replace c3 := hw.cell c3
          replace c4 := hw.cell c4
          replace c5 := hw.cell c5
          replace c6 := hw.cell c6
          replace c0' := hw.cell c0'
          replace c1' := hw.cell c1'
          replace c2' := hw.cell c2'
          replace c3' := hw.cell c3'
          replace c4' := hw.cell c4'
          replace c5' := hw.cell c5'
          replace c6' := hw.cell c6'
          replace hw := Lib.hid hw
          replace hX2 := Lib.hid hX2
          have hki : (k2 : Int) < m.places.length := by omega
          go_wp2_with fail
          go_quiet (fail)
          go_wp2
          go_roundw
          case rel => exact ⟨k2 + 1, by omega, by go_num, hX2.out.drewN _⟩
          case measure => simp [intOf]; omega
        · replace hX2 := Lib.hid hX2
          go_wp2
          go_ret
          exact ⟨rfl, hE.out.trans hX2.out⟩

end Go.Proofs.YtmbjlbmfagfneaaDoor
