/- Contract of uncovered. -/
import Derived.Test.YthfcllefmeoicaaMatch
namespace Go.Proofs.Ythfcllefmeoicaa
open Go.RowKit
attribute [local go_sem ↓] Go.wp_at_zero Go.wp_at_succ

/-- a worker below n, outside of the set, can fill need k -/
def openN (cs : List (Nat → Bool)) (c : Nat → Bool) (k n : Nat) : Bool := (List.range n).any fun w => csAt cs k w && !c w
/-- the needs below n that the set leaves open -/
def uncM (cs : List (Nat → Bool)) (c : Nat → Bool) (n : Nat) : List Int := memC (fun k => openN cs c k 12) n
theorem openN_yes {cs : List (Nat → Bool)} {c : Nat → Bool} {k j : Nat} (hj : j < 12) (h1 : csAt cs k j = true) (h2 : c j = false) : openN cs c k 12 = true := by
  unfold openN; rw [List.any_eq_true]; exact ⟨j, by simpa using hj, by simp [h1, h2]⟩
theorem openN_no {cs : List (Nat → Bool)} {c : Nat → Bool} {k : Nat} (h : ∀ j, j < 12 → (csAt cs k j && !c j) = false) : openN cs c k 12 = false := by
  unfold openN; rw [List.any_eq_false]; intro j hj; rw [h j (by simpa using hj)]; simp

set_option maxRecDepth 100000 in
set_option maxHeartbeats 2000000 in
theorem c_uncovered (v : Value) (cs : List (Nat → Bool)) (c : Nat → Bool) (w : World) (h : RdC w v cs) (hcs : cs.length ≤ 1000) :
    Calls Try.prog 39 #[v, .agg (crewA c)] w fun e w' => ∃ r, e = .returned r ∧ RdI w' r (uncM cs c cs.length) ∧ Fresh w.heap.size r ∧ Ext w w' := by
  obtain ⟨A, cap, rfl, hcap, hmax, hrows⟩ := h
  replace hrows := Lib.hid hrows
  unfold maxLen at hmax
  go_enter Try.func39, Try.ntmps39
  go_wp2
  go_loopw [5, 12] (fun r i wr => ∃ k : Nat, k ≤ cs.length ∧ i = .int .i64 k ∧ OwnL .i64 3 (w.heap.size + 1) wr r (uncM cs c k) ∧ Blk wr w.heap.size 58 (crewA c) ∧ Ext w wr) (fun _ i _ => cs.length - (intOf i).toNat)
  case atStart => exact ⟨0, by omega, rfl, OwnL.nil _ _ _ _, Blk.new w 58 (crewA c), (Ext.refl _).alloc _⟩
  case round =>
    obtain ⟨k, hk, rfl, hown, hBb, hext⟩ := hrel
    obtain ⟨A', cap', rfl⟩ := hown.slice
    have HX := Lib.hid hext
    have HB := Lib.hid hBb
    have HO := Lib.hid hown
    have hul := memC_length (fun k => openN cs c k 12) k
    by_cases hlt : k < cs.length
    · obtain ⟨b, o, rfl, hrow⟩ := hrows.out k hlt
      obtain ⟨ck, hck⟩ : ∃ ck : Nat → Bool, ∀ i, csAt cs k i = ck i := ⟨_, fun i => csAt_eq cs k i hlt⟩
      have hrow : w.rangeAt b (o + k * 12) (crewL ck) := by
        have : crewL ck = crewL (cs[k]'hlt) := by
          congr 1; funext i; rw [← hck, csAt_eq cs k i hlt]
        rw [this]; exact hrow
      have HCK := Lib.hid hck
      have hrow' := Lib.hid (show wr.rangeAt b (o + k * 12) (crewL ck) from fun i v hv => hext.cell (hrow i v hv))
      have hsz : w.heap.size < wr.heap.size := hBb.lt
      clear hck hrow hown hBb hext
      have hS := Lib.hid (memC_succ (fun k => openN cs c k 12) k)
      go_wp2_with (first
        | ((with_reducible (show wpList _ _ _ (Oper.mk (some 16) (.load 58 (.tmp 15)) _ _ _ _ :: _) _ _)); refine wpList_load_mid rfl 58 (.tmp 15) rfl b (o + k * 12) rfl (crewL ck) _ hrow'.out Try.underlying58 rfl (by rw [crewL_length]; exact info58) ?_)
        | ((with_reducible (show wpList _ _ _ (Oper.mk (none) (.store 58 (.tmp 7) (.tmp 16)) _ _ _ _ :: _) _ _)); refine wpList_store_whole rfl 58 (.tmp 7) (.tmp 16) rfl wr.heap.size 58 #[.bool false, .bool false, .bool false, .bool false, .bool false, .bool false, .bool false, .bool false, .bool false, .bool false, .bool false, .bool false] (crewA ck) rfl rfl (Blk.new _ _ _) (by rw [crewA_size]; rfl) (by rw [crewA_size]; exact info58) (crewA_one _) ?_; intro W1 hS1 hT1; have hE1 := ((Ext.refl wr).alloc (.cells #[.bool false, .bool false, .bool false, .bool false, .bool false, .bool false, .bool false, .bool false, .bool false, .bool false, .bool false, .bool false] 58)).trans_below (hT1.below (B := wr.heap.size) (Nat.le_refl _) (Nat.le_refl _)); replace hE1 := Lib.hid hE1; clear hT1; replace hS1 := Lib.hid hS1)
        | ((with_reducible (show wpList _ _ _ (Oper.mk (some 17) (.load 58 (.tmp 7)) _ _ _ _ :: _) _ _)); refine wpList_load_row rfl 58 (.tmp 7) rfl wr.heap.size rfl 58 (crewA ck) (0, 0) _ hS1.out Try.underlying58 rfl (by rw [crewA_size]; exact info58) ?_))
      have hb1 := Lib.hid (HB.out.ext hE1.out)
      have hX1 := Lib.hid (HX.out.trans hE1.out)
      have hO1 := Lib.hid (HO.out.ext hE1.out)
      clear HB HX HO hS1 hE1 hrow'
      go_loopw [5, 18] (fun r i wx => ∃ j : Nat, j ≤ 12 ∧ i = .int .i64 j ∧ r = .slice A' (uncM cs c k).length cap' ∧ Hid (∀ i, i < j → (csAt cs k i && !c i) = false) ∧ wx = W1) (fun _ i _ => 12 - (intOf i).toNat)
      case atStart => exact ⟨0, by omega, rfl, rfl, Lib.hid (fun i hi => absurd hi (by omega)), rfl⟩
      case round =>
        obtain ⟨j, hj, rfl, rfl, HJ, rfl⟩ := hrel
        by_cases hjl : j < 12
        · have hix := run_index_crew ck j hjl
          have hcb := hb1.out.cell j
          rw [crewA_get _ _ hjl] at hcb
          have hjI : (j : Int) < 12 := by omega
          cases hcj : ck j with
          | false =>
            rw [hcj] at hix
            go_wp2_with fail
            go_roundw
            case rel => exact ⟨j + 1, by omega, by go_num, by first | rfl | trivial, Lib.hid (fun i hi => by rcases Nat.lt_succ_iff_lt_or_eq.1 hi with h | rfl; exact HJ.out i h; rw [HCK.out, hcj]; rfl), by first | rfl | trivial⟩
            case measure => simp [intOf]; omega
          | true =>
            rw [hcj] at hix
            cases hbj : c j with
            | true =>
              rw [hbj] at hcb
              go_wp2_with fail
              go_roundw
              case rel => exact ⟨j + 1, by omega, by go_num, by first | rfl | trivial, Lib.hid (fun i hi => by rcases Nat.lt_succ_iff_lt_or_eq.1 hi with h | rfl; exact HJ.out i h; rw [hbj]; simp), by first | rfl | trivial⟩
              case measure => simp [intOf]; omega
            | false =>
              rw [hbj] at hcb
              have hyes := Lib.hid (show uncM cs c (k + 1) = uncM cs c k ++ [(k : Int)] by unfold uncM; rw [hS.out, if_pos (openN_yes hjl (by rw [HCK.out, hcj]) hbj)])
              go_wp2_with (at_builtin; refine wpList_app1 rfl (.tmp 29) (.tmp 31) 26 rfl .i64 3 (w.heap.size + 1) 8 Try.underlying26 info3 (by decide) _ (uncM cs c k) k wr.heap.size 1 rfl (hO1.out.alloc _) rfl ?_ ?_ ?_ ?_; (simp); (unfold uncM; omega); (have := hb1.out.lt; simp; omega); (intro A2 cap2 w2 ho hg hat))
              go_roundw
              case rel => exact ⟨k + 1, by omega, by go_num, by rw [hyes.out]; exact ho, (hb1.out.alloc _).grown hg (fun e => by have := (hO1.out.base) _ e.symm; omega), (hO1.out.alloc _).extGrown (hX1.out.alloc _) (by omega) hg⟩
              case measure => simp [intOf]; omega
        · have hno := Lib.hid (show uncM cs c (k + 1) = uncM cs c k by unfold uncM; rw [hS.out, openN_no (fun i hi => HJ.out i (by omega))]; simp)
          have hjI : ¬ (j : Int) < 12 := by omega
          go_wp2_with fail
          go_roundw
          case rel => exact ⟨k + 1, by omega, by go_num, by rw [hno.out]; exact hO1.out, hb1.out, hX1.out⟩
          case measure => simp [intOf]; omega
    · have hkn : k = cs.length := by omega
      go_wp2
      go_ret
      subst hkn
      exact ⟨_, rfl, HO.out.rdI, fun a n c e => Nat.le_of_succ_le (HO.out.fresh a n c e), HX.out⟩
end Go.Proofs.Ythfcllefmeoicaa
