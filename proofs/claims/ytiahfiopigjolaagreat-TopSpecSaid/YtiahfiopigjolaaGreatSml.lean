/- Contract of the reference's Small: it answers some bool. -/
import Derived.Test.YtiahfiopigjolaaGreatLng
namespace Go.Proofs.YtiahfiopigjolaaGreat
open Go Go.RowKit

/-- some bool -/
def SmOut (w : World) (e : Ending) (w' : World) : Prop := (∃ b, e = .returned (.bool b)) ∧ Ext w w'

set_option maxRecDepth 100000 in
set_option maxHeartbeats 4000000 in
theorem c_Small (s : St) (v1 v2 v3 v4 v5 v6 : Value) (w : World) (h : StR w s v1 v2 v3 v4 v5 v6) : Calls Tryz.prog 4 #[.agg (stC s v1 v2 v3 v4 v5 v6).toArray, .int .i64 1] w (SmOut w) := by
  obtain ⟨A1, c1, rfl⟩ := h.sz.slice
  obtain ⟨A2, c2, rfl⟩ := h.mu.slice
  obtain ⟨A3, c3, rfl⟩ := h.pc.slice
  obtain ⟨A4, c4, rfl⟩ := h.us.slice
  obtain ⟨A5, c5, rfl⟩ := h.sm.slice
  obtain ⟨A6, c6, rfl, hops⟩ := h.op
  have hl1 := h.sz.le
  have hl2 := h.mu.le
  have hl3 := h.pc.le
  have hl4 := h.us.le
  have hl5 := h.sm.le
  unfold maxLen at hl1 hl2 hl3 hl4 hl5 hops
  have hpc := Lib.hid h.pc
  have hus := Lib.hid h.us
  clear h
  have hY := Lib.hid (show Ext w (w.alloc (.cells (stC s (.slice A1 s.sizes.length c1) (.slice A2 s.mults.length c2) (.slice A3 s.pieces.length c3) (.slice A4 s.uses.length c4) (.slice A5 s.seams.length c5) (.slice A6 s.nops c6)).toArray 29)) from (Ext.refl w).alloc _)
  unfold stC
  go_enter Tryz.func4, Tryz.ntmps4
  by_cases t1 : (4 : Int) < s.pieces.length
  · go_wp2
    go_ret
    exact ⟨⟨_, rfl⟩, hY.out⟩
  by_cases t2 : (4 : Int) < s.uses.length
  · go_wp2
    go_ret
    exact ⟨⟨_, rfl⟩, hY.out⟩
  by_cases t3 : (4 : Int) < s.sizes.length
  · go_wp2
    go_ret
    exact ⟨⟨_, rfl⟩, hY.out⟩
  by_cases t4 : (4 : Int) < s.mults.length
  · go_wp2
    go_ret
    exact ⟨⟨_, rfl⟩, hY.out⟩
  by_cases t5 : (6 : Int) < s.seams.length
  · go_wp2
    go_ret
    exact ⟨⟨_, rfl⟩, hY.out⟩
  by_cases t6 : (8 : Int) < s.nops
  · go_wp2
    go_ret
    exact ⟨⟨_, rfl⟩, hY.out⟩
  go_wp2
  obtain ⟨W, hW⟩ : ∃ W, W = w.alloc (.cells (stC s (.slice A1 s.sizes.length c1) (.slice A2 s.mults.length c2) (.slice A3 s.pieces.length c3) (.slice A4 s.uses.length c4) (.slice A5 s.seams.length c5) (.slice A6 s.nops c6)).toArray 29) := ⟨_, rfl⟩
  have hX := Lib.hid (show Ext w W from hW ▸ (Ext.refl w).alloc _)
  have hP := Lib.hid (show Blk W w.heap.size 29 _ from hW ▸ Blk.new _ _ _)
  unfold stC at hW
  rw [← hW]
  clear hW hY
  obtain ⟨q0, q1, q2, q3, q4, q5, q6⟩ := hP.out.parts7
  have lP := hP.out.lt
  go_loop [5] (fun i => ∃ k : Nat, k ≤ s.pieces.length ∧ i = .int .i64 (k : Nat)) (fun i => s.pieces.length - (intOf i).toNat)
  case atStart => exact ⟨0, Nat.zero_le _, rfl⟩
  case round =>
    obtain ⟨k, hk, rfl⟩ := hrel
    by_cases hlt : k < s.pieces.length
    · obtain ⟨b, o, B1, e1, B2, e2, B3, e3, B4, e4, rfl, hr, d0, d1, d2, d3, d4, d5, d6⟩ := hpc.out.piece k hlt
      have hed := Lib.hid (hr.ed.ext edP.stays hX.out)
      have hle := hr.ed.le
      have hln := hr.nt.le
      unfold maxLen at hle hln
      clear hr d0 d2 d4 d5 d6
      obtain ⟨q, hq⟩ : ∃ q, q = s.pieces[k] := ⟨_, rfl⟩
      rw [← hq] at d1 d3 hed hle hln
      clear hq
      replace d1 := hX.out.cell d1
      replace d3 := hX.out.cell d3
      have lb := World.block_lt_of_cell? _ _ d1
      have hki : (k : Int) < s.pieces.length := by omega
      have hk0 : (0 : Int) ≤ k := by omega
      go_wp2
      go_loop [6, 7] (fun t i => ∃ (j : Nat) (n : Int), j ≤ q.edges.length ∧ j ≤ 17 ∧ i = .int .i64 (j : Nat) ∧ t = .int .i64 n ∧ 0 ≤ n ∧ n ≤ 20 * j) (fun _ i => 17 - (intOf i).toNat)
      case atStart => exact ⟨0, 0, Nat.zero_le _, by omega, rfl, rfl, by omega, by omega⟩
      case round =>
        obtain ⟨j, n, hj, hj17, rfl, rfl, hn0, hn1⟩ := hrel
        by_cases hjl : j < q.edges.length
        · have hji : (j : Int) < q.edges.length := by omega
          by_cases hj2 : j < 17
          · have hj2i : (j : Int) < 17 := by omega
            have hj0 : (0 : Int) ≤ j := by omega
            obtain ⟨b', o', L, n', rfl, hline, _, _, g1⟩ := hed.out.edge j hjl
            have hll := hline.le
            unfold maxLen at hll
            clear hline
            generalize q.edges[j] = ed at *
            have lb' := World.block_lt_of_cell? _ _ g1
            have hw : IntKind.i64.wrap (n + min (ed.line.length : Int) 20) = n + min (ed.line.length : Int) 20 := IntWalk.i64_in _ (by omega)
            go_wp2
            all_goals
              go_round
              case rel => exact ⟨j + 1, _, by omega, by omega, by go_num, rfl, by omega, by omega⟩
              case measure => simp [intOf]; omega
          · have hj2i : ¬ (j : Int) < 17 := by omega
            by_cases x1 : 24 < n
            · go_wp2
              go_ret
              exact ⟨⟨_, rfl⟩, hX.out⟩
            have x2 : (16 : Int) < q.edges.length := by omega
            go_wp2
            go_ret
            exact ⟨⟨_, rfl⟩, hX.out⟩
        · have hji : ¬ (j : Int) < q.edges.length := by omega
          by_cases x1 : 24 < n
          · go_wp2
            go_ret
            exact ⟨⟨_, rfl⟩, hX.out⟩
          by_cases x2 : (16 : Int) < q.edges.length
          · go_wp2
            go_ret
            exact ⟨⟨_, rfl⟩, hX.out⟩
          by_cases x3 : (16 : Int) < q.notches.length
          · go_wp2
            go_ret
            exact ⟨⟨_, rfl⟩, hX.out⟩
          go_wp2
          go_round
          case rel => exact ⟨k + 1, by omega, by go_num⟩
          case measure => simp [intOf]; omega
    · have hki : ¬ (k : Int) < s.pieces.length := by omega
      go_wp2
      go_loop [8, 9] (fun t i => ∃ (j : Nat) (n : Int), j ≤ s.uses.length ∧ i = .int .i64 (j : Nat) ∧ t = .int .i64 n ∧ 0 ≤ n ∧ n ≤ 9 * j) (fun _ i => s.uses.length - (intOf i).toNat)
      case atStart => exact ⟨0, 0, Nat.zero_le _, rfl, rfl, by omega, by omega⟩
      case round =>
        obtain ⟨j, n, hj, rfl, rfl, hn0, hn1⟩ := hrel
        by_cases hjl : j < s.uses.length
        · obtain ⟨b, o, rfl, _, d1, _⟩ := hus.out.us j hjl
          generalize s.uses[j] = u at *
          replace d1 := hX.out.cell d1
          have lb := World.block_lt_of_cell? _ _ d1
          have hji : (j : Int) < s.uses.length := by omega
          have hj0 : (0 : Int) ≤ j := by omega
          have hw : IntKind.i64.wrap (n + min (max u.count 0) 9) = n + min (max u.count 0) 9 := IntWalk.i64_in _ (by omega)
          go_wp2
          all_goals
            go_round
            case rel => exact ⟨j + 1, _, by omega, by go_num, rfl, by omega, by omega⟩
            case measure => simp [intOf]; omega
        · have hji : ¬ (j : Int) < s.uses.length := by omega
          have hw : IntKind.i64.wrap n = n := IntWalk.i64_in _ (by omega)
          go_wp2
          go_ret
          exact ⟨⟨_, rfl⟩, hX.out⟩

end Go.Proofs.YtiahfiopigjolaaGreat
