/- Contracts of the functions that compare lists: Less, Same, cmp.Compare, slices.Compare; and of filled, has, with. -/
import Derived.Test.YthfcllefmeoicaaLeaf
namespace Go.Proofs.Ythfcllefmeoicaa
open Go.RowKit

/-- at the first difference by the lesser number, a beginning before what continues it -/
def lessI : List Int → List Int → Bool
  | _, [] => false
  | [], _ :: _ => true
  | a :: r, b :: s => if a = b then lessI r s else decide (a < b)

theorem lessI_drop (xs ys : List Int) (k : Nat) : xs.take k = ys.take k → k ≤ xs.length → k ≤ ys.length → lessI xs ys = lessI (xs.drop k) (ys.drop k) := by
  induction k generalizing xs ys with
  | zero => intros; simp
  | succ k ih =>
    intro h h1 h2
    match xs, ys, h1, h2 with
    | a :: r, b :: s, h1, h2 =>
      simp only [List.take_succ_cons, List.cons.injEq] at h
      obtain ⟨rfl, h⟩ := h
      simp only [lessI, if_true, List.drop_succ_cons]
      exact ih r s h (by simpa using h1) (by simpa using h2)

theorem lessI_at {xs ys : List Int} {k : Nat} (h : xs.take k = ys.take k) (h1 : k < xs.length) (h2 : k < ys.length) (hne : (xs[k] != ys[k]) = true) : lessI xs ys = decide (xs[k] < ys[k]) := by
  rw [lessI_drop xs ys k h (by omega) (by omega), List.drop_eq_getElem_cons h1, List.drop_eq_getElem_cons h2, lessI, if_neg (by simpa using hne)]

theorem lessI_end {xs ys : List Int} {k : Nat} (h : xs.take k = ys.take k) (h1 : k ≤ xs.length) (h2 : k ≤ ys.length) (he : k = xs.length ∨ k = ys.length) : lessI xs ys = decide (xs.length < ys.length) := by
  rw [lessI_drop xs ys k h (by omega) (by omega)]
  rcases Nat.lt_or_ge k ys.length with hlt | hge
  · have hx : k = xs.length := by omega
    rw [List.drop_of_length_le (by omega), List.drop_eq_getElem_cons hlt, lessI]
    simp; omega
  · rw [List.drop_of_length_le (l := ys) (by omega), lessI]
    simp; omega

theorem take_eq_succ {xs ys : List Int} {k : Nat} (h : xs.take k = ys.take k) (h1 : k < xs.length) (h2 : k < ys.length) (he : (xs[k] != ys[k]) = false) : xs.take (k + 1) = ys.take (k + 1) := by
  rw [take_snoc xs k h1, take_snoc ys k h2, h]
  have : xs[k] = ys[k] := by simpa using he
  rw [this]

set_option maxHeartbeats 400000 in
theorem c_less (v u : Value) (xs ys : List Int) (w : World) (h : RdI w v xs) (g : RdI w u ys) :
    Calls Try.prog 37 #[v, u] w fun e w' => e = .returned (.bool (lessI xs ys)) ∧ Ext w w' := by
  obtain ⟨A, cap, rfl, hcap, hmax, hc⟩ := h
  obtain ⟨B, cap', rfl, hcap', hmax', hd⟩ := g
  unfold maxLen at hmax hmax'
  go_enter Try.func37, Try.ntmps37
  go_wp2
  go_loopw [5] (fun i wr => ∃ k : Nat, k ≤ xs.length ∧ k ≤ ys.length ∧ i = .int .i64 k ∧ Hid (xs.take k = ys.take k) ∧ Ext w wr) (fun i _ => xs.length - (intOf i).toNat)
  case atStart => exact ⟨0, Nat.zero_le _, Nat.zero_le _, rfl, Lib.hid (by simp), Ext.refl _⟩
  case round =>
    obtain ⟨k, hk, hk', rfl, HT, hext⟩ := hrel
    by_cases hlt : k < xs.length
    · by_cases hlt' : k < ys.length
      · obtain ⟨b, o, rfl, hcell⟩ := hc k hlt
        obtain ⟨b', o', rfl, hcell'⟩ := hd k hlt'
        have hcell := hext.cell hcell
        have hcell' := hext.cell hcell'
        clear hc hd
        go_wp2
        go_quiet (fail)
        go_wp2
        · go_quiet (fail)
          go_wp2
          go_ret
          exact ⟨ret_bool (lessI_at HT.out hlt hlt' (by assumption)).symm, (hext.drewN _).drewN _⟩
        · rename_i nq hx
          go_roundw
          case rel => exact ⟨k + 1, by omega, by omega, by go_num, Lib.hid (take_eq_succ HT.out hlt hlt' hx), hext.drewN _⟩
          case measure => simp [intOf]; omega
      · go_wp2
        go_ret
        exact ⟨ret_bool (lessI_end HT.out hk hk' (Or.inr (by omega))).symm, hext⟩
    · go_wp2
      go_ret
      exact ⟨ret_bool (lessI_end HT.out hk hk' (Or.inl (by omega))).symm, hext⟩

/-- the lists are one -/
def sameI (xs ys : List Int) : Bool := decide (xs = ys)
theorem lessI_irr (xs : List Int) : lessI xs xs = false := by
  induction xs with
  | nil => rfl
  | cons a r ih => simp [lessI, ih]
theorem lessI_tot (xs ys : List Int) (h : lessI xs ys = false) (g : lessI ys xs = false) : xs = ys := by
  induction xs generalizing ys with
  | nil => cases ys with
    | nil => rfl
    | cons b s => simp [lessI] at h
  | cons a r ih => cases ys with
    | nil => simp [lessI] at g
    | cons b s =>
      simp only [lessI] at h g
      by_cases e : a = b
      · subst e
        simp only [if_true] at h g
        rw [ih s h g]
      · rw [if_neg e] at h
        rw [if_neg (fun x => e x.symm)] at g
        simp at h g
        omega

set_option maxHeartbeats 400000 in
theorem c_same (v u : Value) (xs ys : List Int) (w : World) (h : RdI w v xs) (g : RdI w u ys) :
    Calls Try.prog 19 #[v, u] w fun e w' => e = .returned (.bool (sameI xs ys)) ∧ Ext w w' := by
  have hh := Lib.hid h
  have gg := Lib.hid g
  clear h g
  by_cases hl : lessI xs ys = true
  · go_enter Try.func19, Try.ntmps19
    go_wp2_with fail
    refine (c_less _ _ xs ys _ hh.out gg.out).mono ?_
    rintro e w1 ⟨rfl, hx1⟩
    go_wp2
    go_ret
    exact ⟨ret_bool (by simp [sameI]; rintro rfl; rw [lessI_irr] at hl; simp at hl), hx1⟩
  · have hl : lessI xs ys = false := by simpa using hl
    go_enter Try.func19, Try.ntmps19
    go_wp2_with fail
    refine (c_less _ _ xs ys _ hh.out gg.out).mono ?_
    rintro e w1 ⟨rfl, hx1⟩
    go_wp2_with fail
    refine (c_less _ _ ys xs _ (gg.out.ext hx1) (hh.out.ext hx1)).mono ?_
    rintro e w2 ⟨rfl, hx2⟩
    go_wp2
    go_ret
    refine ⟨ret_bool ?_, hx1.trans hx2⟩
    cases h2 : lessI ys xs with
    | false => simp [sameI, lessI_tot xs ys hl h2]
    | true => simp [sameI]; rintro rfl; rw [lessI_irr] at h2; simp at h2

theorem c_cmp (a b : Int) (w : World) : Calls Try.prog 48 #[.int .i64 a, .int .i64 b] w fun e w' => e = .returned (.int .i64 (if a < b then -1 else if b < a then 1 else 0)) ∧ w = w' := by
  by_cases h : a < b
  · go_enter Try.func48, Try.ntmps48
    go_wp2
    go_ret
    exact ⟨ret_int (by simp), rfl⟩
  · by_cases h' : b < a
    · go_enter Try.func48, Try.ntmps48
      go_wp2
      go_ret
      exact ⟨ret_int (by simp), rfl⟩
    · go_enter Try.func48, Try.ntmps48
      go_wp2
      go_ret
      exact ⟨ret_int (by simp), rfl⟩

/-- What slices.Compare returns says which list comes first. -/
def CmpOk (xs ys : List Int) (w : World) (e : Ending) (w' : World) : Prop := ∃ r : Int, e = .returned (.int .i64 r) ∧ (decide (r < 0)) = lessI xs ys ∧ -1 ≤ r ∧ r ≤ 1 ∧ w = w'

set_option maxHeartbeats 400000 in
theorem c_compare (v u : Value) (xs ys : List Int) (w : World) (h : RdI w v xs) (g : RdI w u ys) :
    Calls Try.prog 40 #[v, u] w (CmpOk xs ys w) := by
  obtain ⟨A, cap, rfl, hcap, hmax, hc⟩ := h
  obtain ⟨B, cap', rfl, hcap', hmax', hd⟩ := g
  unfold maxLen at hmax hmax'
  go_enter Try.func40, Try.ntmps40
  go_wp2
  go_loop [11] (fun i => ∃ k : Nat, k ≤ xs.length ∧ k ≤ ys.length ∧ i = .int .i64 k ∧ Hid (xs.take k = ys.take k)) (fun i => xs.length - (intOf i).toNat)
  case atStart => exact ⟨0, Nat.zero_le _, Nat.zero_le _, rfl, Lib.hid (by simp)⟩
  case round =>
    obtain ⟨k, hk, hk', rfl, HT⟩ := hrel
    by_cases hlt : k < xs.length
    · by_cases hlt' : k < ys.length
      · obtain ⟨b, o, rfl, hcell⟩ := hc k hlt
        obtain ⟨b', o', rfl, hcell'⟩ := hd k hlt'
        clear hc hd
        go_wp2_with fail
        refine (c_cmp _ _ _).mono ?_
        rintro e w1 ⟨rfl, rfl⟩
        by_cases hx : xs[k] < ys[k]
        · rw [if_pos hx]
          go_wp2
          go_ret
          exact ⟨-1, rfl, by rw [lessI_at HT.out hlt hlt' (by simp; omega)]; simp [hx], by omega, by omega, rfl⟩
        · rw [if_neg hx]
          by_cases hy : ys[k] < xs[k]
          · rw [if_pos hy]
            go_wp2
            go_ret
            exact ⟨1, rfl, by rw [lessI_at HT.out hlt hlt' (by simp; omega)]; simp; omega, by omega, by omega, rfl⟩
          · rw [if_neg hy]
            go_wp2
            go_round
            case rel => exact ⟨k + 1, by omega, by omega, by go_num, Lib.hid (take_eq_succ HT.out hlt hlt' (by simp; omega))⟩
            case measure => simp [intOf]; omega
      · obtain ⟨b, o, rfl, hcell⟩ := hc k hlt
        clear hc hd
        go_wp2
        go_ret
        exact ⟨1, rfl, by rw [lessI_end HT.out hk hk' (Or.inr (by omega))]; simp; omega, by omega, by omega, rfl⟩
    · by_cases hlt' : xs.length < ys.length
      · go_wp2
        go_ret
        exact ⟨-1, rfl, by rw [lessI_end HT.out hk hk' (Or.inl (by omega))]; simp [hlt'], by omega, by omega, rfl⟩
      · go_wp2
        go_ret
        exact ⟨0, rfl, by rw [lessI_end HT.out hk hk' (Or.inl (by omega))]; simp [hlt'], by omega, by omega, rfl⟩

/-- how many needs have a worker -/
def filledI (xs : List Int) : Nat := (xs.filter fun x => decide (0 ≤ x)).length
theorem filledI_le (xs : List Int) : filledI xs ≤ xs.length := List.length_filter_le _ _
theorem filledI_snoc (xs : List Int) (k : Nat) (h : k < xs.length) : filledI (xs.take (k + 1)) = filledI (xs.take k) + if 0 ≤ xs[k] then 1 else 0 := by
  rw [take_snoc xs k h]
  unfold filledI
  rw [List.filter_append, List.length_append]
  by_cases h0 : 0 ≤ xs[k] <;> simp [h0]

set_option maxHeartbeats 400000 in
theorem c_filled (v : Value) (xs : List Int) (w : World) (h : RdI w v xs) :
    Calls Try.prog 22 #[v] w fun e w' => e = .returned (.int .i64 (filledI xs : Nat)) ∧ w = w' := by
  obtain ⟨A, cap, rfl, hcap, hmax, hc⟩ := h
  unfold maxLen at hmax
  go_enter Try.func22, Try.ntmps22
  go_wp2
  go_loop [3, 4] (fun n i => ∃ k m : Nat, k ≤ xs.length ∧ m ≤ k ∧ i = .int .i64 k ∧ n = .int .i64 m ∧ Hid (m = filledI (xs.take k))) (fun _ i => xs.length - (intOf i).toNat)
  case atStart => exact ⟨0, 0, Nat.zero_le _, Nat.zero_le _, rfl, rfl, Lib.hid (by simp [filledI])⟩
  case round =>
    obtain ⟨k, m, hk, hm, rfl, rfl, HF⟩ := hrel
    by_cases hlt : k < xs.length
    · obtain ⟨b, o, rfl, hcell⟩ := hc k hlt
      clear hc
      have HS := Lib.hid (filledI_snoc xs k hlt)
      by_cases h0 : 0 ≤ xs[k]
      · go_wp2
        go_round
        case rel => exact ⟨k + 1, m + 1, by omega, by omega, by go_num, by go_num, Lib.hid (by rw [HS.out, if_pos h0, ← HF.out])⟩
        case measure => simp [intOf]; omega
      · go_wp2
        go_round
        case rel => exact ⟨k + 1, m, by omega, by omega, by go_num, rfl, Lib.hid (by rw [HS.out, if_neg h0, ← HF.out, Nat.add_zero])⟩
        case measure => simp [intOf]; omega
    · go_wp2
      go_ret
      exact ⟨ret_int (by rw [HF.out, List.take_of_length_le (by omega)]), rfl⟩
end Go.Proofs.Ythfcllefmeoicaa
