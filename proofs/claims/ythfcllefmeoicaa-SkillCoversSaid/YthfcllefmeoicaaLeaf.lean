/- Contracts of the small functions: in, Index, Contains, Can, among, filled, machine numbers, light. -/
import Derived.Test.YthfcllefmeoicaaBase
namespace Go.Proofs.Ythfcllefmeoicaa
open Go.RowKit

/-- n is among xs -/
def memI (n : Int) (xs : List Int) : Bool := xs.contains n
theorem memI_iff (n : Int) (xs : List Int) : memI n xs = true ↔ n ∈ xs := by unfold memI; exact List.contains_iff_mem
theorem memI_false (n : Int) (xs : List Int) : memI n xs = false ↔ ¬ n ∈ xs := by
  rw [← memI_iff]; cases memI n xs <;> simp

theorem memI_snoc_no {n : Int} {xs : List Int} {k : Nat} (h : k < xs.length) (h0 : memI n (xs.take k) = false) (h1 : (xs[k] == n) = false) : memI n (xs.take (k + 1)) = false := by
  rw [take_snoc xs k h]
  rw [memI_false] at *
  simp only [List.mem_append, List.mem_singleton, not_or]
  exact ⟨h0, fun e => by subst e; simp at h1⟩
theorem memI_hit {n : Int} {xs : List Int} {k : Nat} (h : k < xs.length) (h1 : (xs[k] == n) = true) : memI n xs = true := by
  rw [memI_iff]; rw [beq_iff_eq] at h1; rw [← h1]; exact List.getElem_mem h
theorem memI_end {n : Int} {xs : List Int} {k : Nat} (h : ¬ k < xs.length) (h0 : memI n (xs.take k) = false) : memI n xs = false := by
  rw [List.take_of_length_le (by omega)] at h0; exact h0

set_option maxHeartbeats 400000 in
theorem c_in (v : Value) (n : Int) (xs : List Int) (w : World) (h : RdI w v xs) :
    Calls Try.prog 26 #[v, .int .i64 n] w fun e w' => e = .returned (.bool (memI n xs)) ∧ w = w' := by
  obtain ⟨A, cap, rfl, hcap, hmax, hc⟩ := h
  unfold maxLen at hmax
  go_enter Try.func26, Try.ntmps26
  go_wp2
  go_loop [5] (fun i => ∃ k : Nat, k ≤ xs.length ∧ i = .int .i64 k ∧ memI n (xs.take k) = false) (fun i => xs.length - (intOf i).toNat)
  case atStart => exact ⟨0, Nat.zero_le _, rfl, by simp [memI]⟩
  case round =>
    obtain ⟨k, hk, rfl, hno⟩ := hrel
    have HN := Lib.hid hno
    clear hno
    by_cases hlt : k < xs.length
    · obtain ⟨b, o, rfl, hcell⟩ := hc k hlt
      clear hc
      go_wp2
      · rename_i hx _
        go_ret
        exact ⟨ret_bool (memI_hit hlt hx).symm, rfl⟩
      · rename_i hx
        go_round
        case rel => exact ⟨k + 1, by omega, by go_num, memI_snoc_no hlt HN.out hx⟩
        case measure => simp [intOf]; omega
    · go_wp2
      go_ret
      exact ⟨ret_bool (memI_end hlt HN.out).symm, rfl⟩

set_option maxHeartbeats 400000 in
theorem c_among (v : Value) (n : Int) (xs : List Int) (w : World) (h : RdI w v xs) :
    Calls Try.prog 23 #[v, .int .i64 n] w fun e w' => e = .returned (.bool (memI n xs)) ∧ w = w' := by
  obtain ⟨A, cap, rfl, hcap, hmax, hc⟩ := h
  unfold maxLen at hmax
  go_enter Try.func23, Try.ntmps23
  go_wp2
  go_loop [5] (fun i => ∃ k : Nat, k ≤ xs.length ∧ i = .int .i64 k ∧ memI n (xs.take k) = false) (fun i => xs.length - (intOf i).toNat)
  case atStart => exact ⟨0, Nat.zero_le _, rfl, by simp [memI]⟩
  case round =>
    obtain ⟨k, hk, rfl, hno⟩ := hrel
    have HN := Lib.hid hno
    clear hno
    by_cases hlt : k < xs.length
    · obtain ⟨b, o, rfl, hcell⟩ := hc k hlt
      clear hc
      go_wp2
      · rename_i hx _
        go_ret
        exact ⟨ret_bool (memI_hit hlt hx).symm, rfl⟩
      · rename_i hx
        go_round
        case rel => exact ⟨k + 1, by omega, by go_num, memI_snoc_no hlt HN.out hx⟩
        case measure => simp [intOf]; omega
    · go_wp2
      go_ret
      exact ⟨ret_bool (memI_end hlt HN.out).symm, rfl⟩

theorem beq_swap {a b : Int} {c : Bool} (h : (a == b) = c) : (b == a) = c := by rw [← h]; exact BEq.comm

/-- What slices.Index returns says whether n is there. -/
def IdxOk (n : Int) (xs : List Int) (w : World) (e : Ending) (w' : World) : Prop := ∃ r : Int, e = .returned (.int .i64 r) ∧ (decide (0 ≤ r)) = memI n xs ∧ -1 ≤ r ∧ r < 9223372036854775807 ∧ w = w'

set_option maxHeartbeats 400000 in
theorem c_index (v : Value) (n : Int) (xs : List Int) (w : World) (h : RdI w v xs) :
    Calls Try.prog 43 #[v, .int .i64 n] w (IdxOk n xs w) := by
  obtain ⟨A, cap, rfl, hcap, hmax, hc⟩ := h
  unfold maxLen at hmax
  go_enter Try.func43, Try.ntmps43
  go_wp2
  go_loop [8] (fun i => ∃ k : Nat, k ≤ xs.length ∧ i = .int .i64 k ∧ memI n (xs.take k) = false) (fun i => xs.length - (intOf i).toNat)
  case atStart => exact ⟨0, Nat.zero_le _, rfl, by simp [memI]⟩
  case round =>
    obtain ⟨k, hk, rfl, hno⟩ := hrel
    have HN := Lib.hid hno
    clear hno
    by_cases hlt : k < xs.length
    · obtain ⟨b, o, rfl, hcell⟩ := hc k hlt
      clear hc
      go_wp2
      · rename_i hx _
        go_ret
        exact ⟨(k : Int), rfl, by rw [memI_hit hlt (beq_swap hx)]; simp, by omega, by omega, rfl⟩
      · rename_i hx
        go_round
        case rel => exact ⟨k + 1, by omega, by go_num, memI_snoc_no hlt HN.out (beq_swap hx)⟩
        case measure => simp [intOf]; omega
    · go_wp2
      go_ret
      exact ⟨-1, rfl, by rw [memI_end hlt HN.out]; simp, by omega, by omega, rfl⟩

set_option maxHeartbeats 400000 in
theorem c_contains (v : Value) (n : Int) (xs : List Int) (w : World) (h : RdI w v xs) :
    Calls Try.prog 25 #[v, .int .i64 n] w fun e w' => e = .returned (.bool (memI n xs)) ∧ w = w' := by
  have hi := Lib.hid (c_index v n xs w h)
  go_enter Try.func25, Try.ntmps25
  go_wp2_with fail
  refine hi.out.mono ?_
  rintro e w' ⟨r, rfl, hr, h1, h2, rfl⟩
  have HR := Lib.hid hr
  clear hr
  go_wp2
  go_ret
  exact ⟨ret_bool HR.out, rfl⟩

set_option maxHeartbeats 400000 in
theorem c_can (nm : ByteArray) (mv : Value) (n : Int) (xs : List Int) (w : World) (h : RdI w mv xs) :
    Calls Try.prog 13 #[.agg #[.string nm, mv], .int .i64 n] w fun e w' => e = .returned (.bool (memI n xs)) ∧ Ext w w' := by
  obtain ⟨A, cap, rfl, hcap, hmax, hc⟩ := h
  have hc := Lib.hid hc
  go_enter Try.func13, Try.ntmps13
  go_wp2_with fail
  refine (c_contains _ n xs _ (RdI.ext ⟨A, cap, rfl, hcap, hmax, hc.out⟩ ((Ext.refl _).alloc _))).mono ?_
  rintro e w' ⟨rfl, rfl⟩
  go_wp2
  go_ret
  exact ⟨rfl, (Ext.refl _).alloc _⟩

set_option maxHeartbeats 400000 in
theorem c_refcan (nm : ByteArray) (mv : Value) (n : Int) (xs : List Int) (w : World) (h : RdI w mv xs) :
    Calls Try.prog 14 #[.agg #[.string nm, mv], .int .i64 n] w fun e w' => e = .returned (.bool (memI n xs)) ∧ Ext w w' := by
  obtain ⟨A, cap, rfl, hcap, hmax, hc⟩ := h
  have hc := Lib.hid hc
  go_enter Try.func14, Try.ntmps14
  go_wp2_with fail
  refine (c_in _ n xs _ (RdI.ext ⟨A, cap, rfl, hcap, hmax, hc.out⟩ ((Ext.refl _).alloc _))).mono ?_
  rintro e w' ⟨rfl, rfl⟩
  go_wp2
  go_ret
  exact ⟨rfl, (Ext.refl _).alloc _⟩

/-- a machine's number -/
def isM (m : Int) : Bool := decide (0 ≤ m) && decide (m < 8)

set_option maxHeartbeats 400000 in
theorem c_isMachine (m : Int) (w : World) : Calls Try.prog 28 #[.int .i64 m] w fun e w' => e = .returned (.bool (isM m)) ∧ w = w' := by
  by_cases h : 0 ≤ m
  · go_enter Try.func28, Try.ntmps28
    go_wp2
    go_ret
    exact ⟨ret_bool (by simp [isM, h]), rfl⟩
  · go_enter Try.func28, Try.ntmps28
    go_wp2
    go_ret
    exact ⟨ret_bool (by simp [isM]; omega), rfl⟩

set_option maxHeartbeats 400000 in
theorem c_machine (m : Int) (w : World) : Calls Try.prog 46 #[.int .i64 m] w fun e w' => e = .returned (.bool (isM m)) ∧ w = w' := by
  by_cases h : 0 ≤ m
  · go_enter Try.func46, Try.ntmps46
    go_wp2
    go_ret
    exact ⟨ret_bool (by simp [isM, h]), rfl⟩
  · go_enter Try.func46, Try.ntmps46
    go_wp2
    go_ret
    exact ⟨ret_bool (by simp [isM]; omega), rfl⟩
end Go.Proofs.Ythfcllefmeoicaa
