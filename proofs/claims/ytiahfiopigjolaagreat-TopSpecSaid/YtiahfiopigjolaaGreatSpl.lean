/- Contracts of the library's searches in lists of spots, and of outside. -/
import Derived.Test.YtiahfiopigjolaaGreatGme
namespace Go.Proofs.YtiahfiopigjolaaGreat
open Go Go.RowKit

theorem sp_ne_x {s f : Sp} (h : ¬ s.x = f.x) : ¬ f = s := fun e => h (by rw [e])
theorem sp_ne_y {s f : Sp} (h : ¬ s.y = f.y) : ¬ f = s := fun e => h (by rw [e])
theorem sp_eq {s f : Sp} (h1 : s.x = f.x) (h2 : s.y = f.y) : f = s := by cases s; cases f; simp_all
/-- the element s does not stand among the first k -/
structure NoneTo {α : Type} (xs : List α) (s : α) (k : Nat) : Prop where
  no : s ∉ xs.take k
theorem NoneTo.zero {α : Type} (xs : List α) (s : α) : NoneTo xs s 0 := ⟨by simp⟩
theorem NoneTo.next {α : Type} {xs : List α} {s : α} {k : Nat} (h : NoneTo xs s k) (hk : k < xs.length) (hn : ¬ xs[k] = s) : NoneTo xs s (k + 1) := by
  refine ⟨?_⟩
  rw [take_snoc _ _ hk]
  intro hm
  rcases List.mem_append.1 hm with hm | hm
  · exact h.no hm
  · rw [List.mem_singleton] at hm; exact hn hm.symm
theorem NoneTo.done {α : Type} {xs : List α} {s : α} {k : Nat} (h : NoneTo xs s k) (hk : ¬ k < xs.length) : s ∉ xs := by
  have := h.no
  rwa [List.take_of_length_le (by omega)] at this
/-- how Index ends -/
def IdxOut {α : Type} (xs : List α) (s : α) (w : World) (e : Ending) (w' : World) : Prop := ∃ i : Int, e = .returned (.int .i64 i) ∧ (0 ≤ i ↔ s ∈ xs) ∧ Ext w w'

set_option maxHeartbeats 1000000 in
theorem c_indexP (v : Value) (xs : List Sp) (s : Sp) (w : World) (h : RdL 2 spP w v xs) : Calls Tryz.prog 73 #[v, spV s] w (IdxOut xs s w) := by
  obtain ⟨A, c, rfl⟩ := h.slice
  have hmax := h.le
  unfold maxLen at hmax
  replace h := Lib.hid h
  unfold spV
  go_enter Tryz.func73, Tryz.ntmps73
  go_wp2
  obtain ⟨wB, hwB⟩ : ∃ wB, wB = w.alloc (.cells (spC s).toArray 66) := ⟨_, rfl⟩
  have hEB := Lib.hid (show Ext w wB from hwB ▸ (Ext.refl w).alloc _)
  have hbB := Lib.hid (show Blk wB w.heap.size 66 (spC s).toArray from hwB ▸ Blk.new _ _ _)
  unfold spC at hwB
  rw [← hwB]
  clear hwB
  go_loopw [8] (fun i wr => ∃ k : Nat, k ≤ xs.length ∧ i = .int .i64 (k : Nat) ∧ NoneTo xs s k ∧ Ext wB wr) (fun i _ => xs.length - (intOf i).toNat)
  case atStart => exact ⟨0, Nat.zero_le _, rfl, NoneTo.zero _ _, Ext.refl _⟩
  case round =>
    obtain ⟨k, hk, rfl, hup, hX⟩ := hrel
    by_cases hlt : k < xs.length
    · obtain ⟨b, o, rfl, c0, c1⟩ := h.out.sp k hlt
      have hw := hEB.out.trans hX
      have hnx := Lib.hid (fun h => hup.next hlt h)
      have hmem := Lib.hid (show xs[k] ∈ xs from List.getElem_mem hlt)
      obtain ⟨f, hf⟩ : ∃ f, f = xs[k] := ⟨_, rfl⟩
      rw [← hf] at c0 c1 hnx hmem
      clear hf
      replace c0 := hw.cell c0
      replace c1 := hw.cell c1
      obtain ⟨p0, p1, l0⟩ := sp_cells (hbB.out.ext hX)
      replace hw := Lib.hid hw
      replace hX := Lib.hid hX
      replace hup := Lib.hid hup
      have hki : (k : Int) < xs.length := by omega
      have lb := World.block_lt_of_cell? _ _ c0
      by_cases hx : s.x = f.x
      · by_cases hy : s.y = f.y
        · have he := Lib.hid (sp_eq hx hy)
          have e0 : (s.x == f.x) = true := by simp [hx]
          have e1 : (s.y == f.y) = true := by simp [hy]
          replace hx := Lib.hid hx
          replace hy := Lib.hid hy
          go_wp2_with fail
          go_quiet (fail)
          go_wp2
          go_ret
          exact ⟨k, rfl, ⟨fun _ => by rw [← he.out]; exact hmem.out, fun _ => by omega⟩, hw.out.drewN _⟩
        · have hup2 := Lib.hid (hnx.out (sp_ne_y hy))
          have e0 : (s.x == f.x) = true := by simp [hx]
          have e1 : (s.y == f.y) = false := by simp [hy]
          replace hx := Lib.hid hx
          replace hy := Lib.hid hy
          go_wp2_with fail
          go_quiet (fail)
          go_wp2
          go_roundw
          case rel => exact ⟨k + 1, by omega, by go_num, hup2.out, hX.out.drewN _⟩
          case measure => simp [intOf]; omega
      · have hup2 := Lib.hid (hnx.out (sp_ne_x hx))
        have e0 : (s.x == f.x) = false := by simp [hx]
        replace hx := Lib.hid hx
        go_wp2_with fail
        go_quiet (fail)
        go_wp2
        go_roundw
        case rel => exact ⟨k + 1, by omega, by go_num, hup2.out, hX.out.drewN _⟩
        case measure => simp [intOf]; omega
    · have hd := Lib.hid (hup.done hlt)
      have hki : ¬ (k : Int) < xs.length := by omega
      replace hX := Lib.hid hX
      go_wp2
      go_ret
      exact ⟨-1, rfl, ⟨fun h => absurd h (by omega), fun h => absurd h hd.out⟩, hEB.out.trans hX.out⟩

set_option maxHeartbeats 1000000 in
theorem c_containsP (v : Value) (xs : List Sp) (s : Sp) (w : World) (h : RdL 2 spP w v xs) : Calls Tryz.prog 58 #[v, spV s] w fun e w' => e = .returned (.bool (decide (s ∈ xs))) ∧ Ext w w' := by
  have hc := Lib.hid (fun w h => c_indexP v xs s w h)
  obtain ⟨A, c, rfl⟩ := h.slice
  replace h := Lib.hid h
  unfold spV at hc ⊢
  go_enter Tryz.func58, Tryz.ntmps58
  go_wp2_with fail
  refine (hc.out _ (h.out.ext spP.stays ((Ext.refl w).alloc _))).mono ?_
  rintro e w1 ⟨i, rfl, hi, hx⟩
  have hE := Lib.hid (((Ext.refl w).alloc (.cells #[.int .i64 s.x, .int .i64 s.y] 66)).trans hx)
  replace hi := Lib.hid hi
  clear hx
  go_wp2
  go_ret
  exact ⟨ret_bool (by rw [Bool.eq_iff_iff]; simp only [decide_eq_true_eq]; exact hi.out), hE.out⟩

theorem outB_eq (s : Sp) : outB s = (decide (s.x < -1048576) || (decide (1048576 < s.x) || (decide (s.y < -1048576) || decide (1048576 < s.y)))) := by
  unfold outB inR
  rw [Bool.eq_iff_iff]
  simp
  omega

set_option maxHeartbeats 1000000 in
theorem c_plOutside (s : Sp) (w : World) : Calls Tryz.prog 38 #[spV s] w fun e w' => e = .returned (.bool (outB s)) ∧ Ext w w' := by
  have hd := Lib.hid (outB_eq s)
  unfold spV
  go_enter Tryz.func38, Tryz.ntmps38
  go_wp2
  all_goals
    go_ret
    exact ⟨ret_bool (Eq.symm (by rw [hd.out]; first | (simp only [Bool.or_eq_true, decide_eq_true_eq]; omega) | (simp only [Bool.or_eq_false_iff, decide_eq_false_iff_not]; omega) | (rw [Bool.eq_iff_iff]; simp only [Bool.or_eq_true, decide_eq_true_eq]; omega))), (Ext.refl w).alloc _⟩
set_option maxHeartbeats 1000000 in
theorem c_pgOutside (s : Sp) (w : World) : Calls Tryz.prog 46 #[spV s] w fun e w' => e = .returned (.bool (outB s)) ∧ Ext w w' := by
  have hd := Lib.hid (outB_eq s)
  unfold spV
  go_enter Tryz.func46, Tryz.ntmps46
  go_wp2
  all_goals
    go_ret
    exact ⟨ret_bool (Eq.symm (by rw [hd.out]; first | (simp only [Bool.or_eq_true, decide_eq_true_eq]; omega) | (simp only [Bool.or_eq_false_iff, decide_eq_false_iff_not]; omega) | (rw [Bool.eq_iff_iff]; simp only [Bool.or_eq_true, decide_eq_true_eq]; omega))), (Ext.refl w).alloc _⟩

end Go.Proofs.YtiahfiopigjolaaGreat
