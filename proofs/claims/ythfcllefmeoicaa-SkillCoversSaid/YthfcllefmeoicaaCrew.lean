/- Sets of workers as arrays of twelve bools: how they lie in memory; list. -/
import Derived.Test.YthfcllefmeoicaaLex
import Derived.Test.YthfcllefmeoicaaKuhn
import Derived.Deep.MidRow
import Derived.KernelRfl
namespace Go.Proofs.Ythfcllefmeoicaa
open Go.RowKit

/-- a set of workers, as the array 'crew' -/
def crewL (c : Nat → Bool) : List Value := (List.range 12).map fun i => Value.bool (c i)
def crewA (c : Nat → Bool) : Array Value := (crewL c).toArray

theorem crewL_length (c : Nat → Bool) : (crewL c).length = 12 := by simp [crewL]
theorem crewA_size (c : Nat → Bool) : (crewA c).size = 12 := by simp [crewA, crewL]
theorem crewL_get (c : Nat → Bool) (k : Nat) (h : k < 12) : (crewL c)[k]? = some (.bool (c k)) := by simp [crewL, h]
theorem crewA_get (c : Nat → Bool) (k : Nat) (h : k < 12) : (crewA c)[k]? = some (.bool (c k)) := by simp [crewA, crewL, h]
theorem crewA_set (c : Nat → Bool) (k : Nat) (b : Bool) : (crewA c).setIfInBounds k (.bool b) = crewA (upd c k b) := by
  apply Array.ext
  · simp [crewA_size]
  · intro i h1 h2
    by_cases hk : k = i
    · subst hk; simp [crewA, crewL, upd]
    · simp [crewA, crewL, upd, hk, Ne.symm hk]
theorem crew_congr {c d : Nat → Bool} (h : ∀ i, i < 12 → c i = d i) : crewA c = crewA d := by
  unfold crewA crewL
  congr 1
  apply List.map_congr_left
  intro i hi
  rw [h i (by simpa using hi)]
theorem crewA_one (c : Nat → Bool) : (crewA c).all (·.oneCell') = true := by
  apply all_oneCell_toArray
  intro v hv
  simp [crewL] at hv
  obtain ⟨_, _, rfl⟩ := hv
  rfl

theorem info58 : (Try.prog.info? 58).map (·.size) = some 12 := by kernel_rfl

theorem info4 : (Try.prog.info? 4).map (fun i => (i.zero, i.size, i.bytes)) = some (some (.bool false), 1, 1) := by kernel_rfl

theorem run_index_crew (c : Nat → Bool) (k : Nat) (h : k < 12) (w : World) : (Instr.index 58 (.agg (crewA c)) (.int .i64 k)).run Try.prog w = .ok (.bool (c k)) w := by
  have hu : Try.prog.underlying 58 = some (.array 12 4) := Try.underlying58
  have hu4 : Try.prog.underlying 4 = some .bool := Try.underlying4
  obtain ⟨i, hi, hz, hs, _⟩ := info_parts info4
  have hk : (k : Int) < 12 := by omega
  simp [Instr.index, asIntOf, run_underlying hu, run_underlying hu4, sizeOf, typeInfo, hi, hs, part, isAgg, crewA_get c k h]
  omega

/-- the members of the set below k, ascending -/
def memC (c : Nat → Bool) (k : Nat) : List Int := ((List.range k).filter c).map (fun i : Nat => (i : Int))
theorem memC_succ (c : Nat → Bool) (k : Nat) : memC c (k + 1) = if c k then memC c k ++ [(k : Int)] else memC c k := by
  unfold memC
  rw [List.range_succ, List.filter_append, List.map_append]
  by_cases h : c k <;> simp [h]
theorem memC_length (c : Nat → Bool) (k : Nat) : (memC c k).length ≤ k := by
  unfold memC
  have := List.length_filter_le c (List.range k)
  simp at *
  exact this

theorem info3 : (Try.prog.info? 3).map (fun i => (i.zero, i.size, i.bytes)) = some (some (.int .i64 0), 1, 8) := by kernel_rfl

set_option maxHeartbeats 400000 in
theorem c_list (c : Nat → Bool) (w : World) : Calls Try.prog 38 #[.agg (crewA c)] w fun e w' => ∃ v, e = .returned v ∧ RdI w' v (memC c 12) ∧ Fresh w.heap.size v ∧ Ext w w' := by
  go_enter Try.func38, Try.ntmps38
  go_wp2_with (refine wpList_load_row rfl 58 (.tmp 1) rfl w.heap.size rfl 58 (crewA c) (0, 0) _ (Blk.new w 58 (crewA c)) Try.underlying58 rfl (by rw [crewA_size]; exact info58) ?_)
  go_loopw [3, 7] (fun v i wr => ∃ k : Nat, k ≤ 12 ∧ i = .int .i64 k ∧ OwnL .i64 3 w.heap.size wr v (memC c k) ∧ Ext w wr) (fun _ i _ => 12 - (intOf i).toNat)
  case atStart => exact ⟨0, Nat.zero_le _, rfl, OwnL.nil _ _ _ _, (Ext.refl _).alloc _⟩
  case round =>
    obtain ⟨k, hk, rfl, hown, hext⟩ := hrel
    obtain ⟨A, cap, rfl⟩ := hown.slice
    have hown := Lib.hid hown
    have hext := Lib.hid hext
    by_cases hlt : k < 12
    · have hix := run_index_crew c k hlt
      have hS := Lib.hid (memC_succ c k)
      cases hck : c k with
      | true =>
        rw [hck] at hix
        go_wp2_with (at_builtin; refine wpList_app1 rfl (.tmp 12) (.tmp 14) 26 rfl .i64 3 w.heap.size 8 Try.underlying26 info3 (by decide) _ (memC c k) k wr.heap.size 1 rfl (hown.out.alloc _) rfl ?_ ?_ ?_ ?_; (simp); (have := memC_length c k; omega); (have := hext.out.size; simp; omega); (intro A' cap' w' ho hg hat))
        go_roundw
        case rel => exact ⟨k + 1, by omega, by go_num, by rw [hS.out, hck, if_pos rfl]; exact ho, (hown.out.alloc _).extGrown (hext.out.alloc _) (Nat.le_refl _) hg⟩
        case measure => simp [intOf]; omega
      | false =>
        rw [hck] at hix
        go_wp2
        go_roundw
        case rel => exact ⟨k + 1, by omega, by go_num, by rw [hS.out, hck]; simpa using hown.out, hext.out⟩
        case measure => simp [intOf]; omega
    · have hk12 : k = 12 := by omega
      go_wp2
      go_ret
      subst hk12
      exact ⟨_, rfl, hown.out.rdI, hown.out.fresh, hext.out⟩
end Go.Proofs.Ythfcllefmeoicaa
