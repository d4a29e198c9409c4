/- Contracts of the small functions: within (both), headInRange, few, lines. -/
import Derived.Test.YtmbjlbmfagfneaaDoorBase
namespace Go.Proofs.YtmbjlbmfagfneaaDoor
open Go Go.RowKit

theorem all_hit {lo hi : Int} {xs : List Int} {k : Nat} (h : k < xs.length) (h1 : ¬ (lo ≤ xs[k] ∧ xs[k] ≤ hi)) : xs.all (inR lo hi) = false := by
  cases e : xs.all (inR lo hi) with
  | false => rfl
  | true => exact absurd (of_decide_eq_true (List.all_eq_true.1 e _ (List.getElem_mem h))) h1
theorem all_snoc {lo hi : Int} {xs : List Int} {k : Nat} (h : k < xs.length) (h0 : (xs.take k).all (inR lo hi) = true) (h1 : lo ≤ xs[k]) (h2 : xs[k] ≤ hi) : (xs.take (k + 1)).all (inR lo hi) = true := by
  rw [take_snoc xs k h, List.all_append, h0]
  simp [inR, h1, h2]
theorem all_end {lo hi : Int} {xs : List Int} {k : Nat} (h : ¬ k < xs.length) (h0 : (xs.take k).all (inR lo hi) = true) : xs.all (inR lo hi) = true := by
  rw [List.take_of_length_le (by omega)] at h0; exact h0

set_option maxHeartbeats 1000000 in
theorem c_within (v : Value) (lo hi : Int) (xs : List Int) (w : World) (h : RdI w v xs) :
    Calls Tryd.prog 19 #[.int .i64 lo, .int .i64 hi, v] w fun e w' => e = .returned (.bool (xs.all (inR lo hi))) ∧ w = w' := by
  obtain ⟨A, cap, rfl, hcap, hmax, hc⟩ := h
  unfold maxLen at hmax
  go_enter Tryd.func19, Tryd.ntmps19
  go_wp2
  go_loop [11] (fun i => ∃ k : Nat, k ≤ xs.length ∧ i = .int .i64 k ∧ (xs.take k).all (inR lo hi) = true) (fun i => xs.length - (intOf i).toNat)
  case atStart => exact ⟨0, Nat.zero_le _, rfl, by simp⟩
  case round =>
    obtain ⟨k, hk, rfl, hno⟩ := hrel
    replace hno := Lib.hid hno
    by_cases hlt : k < xs.length
    · obtain ⟨b, o, rfl, hcell⟩ := hc k hlt
      clear hc
      by_cases h1 : xs[k] < lo
      · go_wp2
        go_ret
        exact ⟨ret_bool (all_hit hlt (by omega)).symm, rfl⟩
      · by_cases h2 : hi < xs[k]
        · go_wp2
          go_ret
          exact ⟨ret_bool (all_hit hlt (by omega)).symm, rfl⟩
        · go_wp2
          go_round
          case rel => exact ⟨k + 1, by omega, by go_num, all_snoc hlt hno.out (by omega) (by omega)⟩
          case measure => simp [intOf]; omega
    · go_wp2
      go_ret
      exact ⟨ret_bool (all_end hlt hno.out).symm, rfl⟩

set_option maxHeartbeats 1000000 in
theorem c_rwithin (n lo hi : Int) (w : World) :
    Calls Tryd.prog 31 #[.int .i64 n, .int .i64 lo, .int .i64 hi] w fun e w' => e = .returned (.bool (inR lo hi n)) ∧ w = w' := by
  by_cases h1 : lo ≤ n
  · by_cases h2 : n ≤ hi
    · go_enter Tryd.func31, Tryd.ntmps31
      go_wp2
      go_ret
      exact ⟨ret_bool (by simp [inR, h1, h2]), rfl⟩
    · go_enter Tryd.func31, Tryd.ntmps31
      go_wp2
      go_ret
      exact ⟨ret_bool (by simp [inR, h2]), rfl⟩
  · go_enter Tryd.func31, Tryd.ntmps31
    go_wp2
    go_ret
    exact ⟨ret_bool (by simp [inR]; omega), rfl⟩

theorem Blk.at {w : World} {t : TypeId} {cs : Array Value} {g : Nat} (h : g = w.heap.size) : Blk (w.alloc (.cells cs t)) g t cs := by subst h; exact Blk.new w t cs
theorem size_alloc (w : World) (o : Obj) : (w.alloc o).heap.size = w.heap.size + 1 := by simp
theorem rdI_four {w : World} {g : Nat} {a b c d : Int} (h : Blk w g 3 #[.int .i64 a, .int .i64 b, .int .i64 c, .int .i64 d]) : RdI w (.slice (some ⟨g, 0, none⟩) 4 4) [a, b, c, d] := by
  refine ⟨_, 4, rfl, by simp, by simp [maxLen], fun j hj => ⟨g, 0, rfl, ?_⟩⟩
  rw [h.cell]
  have hj : j < 4 := hj
  match j, hj with
  | 0, _ => rfl
  | 1, _ => rfl
  | 2, _ => rfl
  | 3, _ => rfl
theorem rdI_three {w : World} {g : Nat} {a b c : Int} (h : Blk w g 3 #[.int .i64 a, .int .i64 b, .int .i64 c]) : RdI w (.slice (some ⟨g, 0, none⟩) 3 3) [a, b, c] := by
  refine ⟨_, 3, rfl, by simp, by simp [maxLen], fun j hj => ⟨g, 0, rfl, ?_⟩⟩
  rw [h.cell]
  have hj : j < 3 := hj
  match j, hj with
  | 0, _ => rfl
  | 1, _ => rfl
  | 2, _ => rfl
theorem rdI_two {w : World} {g : Nat} {a b : Int} (h : Blk w g 3 #[.int .i64 a, .int .i64 b]) : RdI w (.slice (some ⟨g, 0, none⟩) 2 2) [a, b] := by
  refine ⟨_, 2, rfl, by simp, by simp [maxLen], fun j hj => ⟨g, 0, rfl, ?_⟩⟩
  rw [h.cell]
  have hj : j < 2 := hj
  match j, hj with
  | 0, _ => rfl
  | 1, _ => rfl
theorem rdI_one {w : World} {g : Nat} {a : Int} (h : Blk w g 3 #[.int .i64 a]) : RdI w (.slice (some ⟨g, 0, none⟩) 1 1) [a] := by
  refine ⟨_, 1, rfl, by simp, by simp [maxLen], fun j hj => ⟨g, 0, rfl, ?_⟩⟩
  rw [h.cell]
  have hj : j < 1 := hj
  match j, hj with
  | 0, _ => rfl

set_option maxHeartbeats 1000000 in
theorem c_headIn (m : Mk) (sv pv : Value) (w : World) :
    Calls Tryd.prog 18 #[mkV m sv pv] w fun e w' => e = .returned (.bool (headOk m.len m.wid m.rx m.ry)) ∧ Ext w w' := by
  unfold mkV
  go_enter Tryd.func18, Tryd.ntmps18
  go_wp2_with fail
  refine (c_within _ _ _ _ _ (rdI_four (Blk.at (size_alloc _ _).symm))).mono ?_
  rintro e w1 ⟨rfl, rfl⟩
  go_wp2
  go_ret
  refine ⟨ret_bool (by simp [headOk, Bool.and_assoc]), ?_⟩
  exact ((Ext.refl w).alloc _).alloc _

set_option maxHeartbeats 1000000 in
theorem c_few (m : Mk) (sv pv : Value) (w : World) (hs : ∃ A cap, sv = .slice A m.sizes.length cap) (hp : ∃ A cap, pv = .slice A m.places.length cap) :
    Calls Tryd.prog 9 #[mkV m sv pv] w fun e w' => e = .returned (.bool (decide (m.sizes.length ≤ 20 ∧ m.places.length ≤ 70))) ∧ Ext w w' := by
  obtain ⟨A, cap, rfl⟩ := hs
  obtain ⟨A', cap', rfl⟩ := hp
  unfold mkV
  by_cases h1 : m.sizes.length ≤ 20
  · by_cases h2 : m.places.length ≤ 70
    · go_enter Tryd.func9, Tryd.ntmps9
      go_wp2
      go_ret
      exact ⟨ret_bool (by simp [h1, h2]; omega), (Ext.refl w).alloc _⟩
    · go_enter Tryd.func9, Tryd.ntmps9
      go_wp2
      go_ret
      exact ⟨ret_bool (by simp [h1, h2]; omega), (Ext.refl w).alloc _⟩
  · go_enter Tryd.func9, Tryd.ntmps9
    go_wp2
    go_ret
    exact ⟨ret_bool (by simp), (Ext.refl w).alloc _⟩

theorem pl_no1 {p : Pl} (h : [p.g, p.u, p.c].all (inR 0 1048576) = false) : plOk p = false := by
  simp only [List.all_cons, List.all_nil, Bool.and_true, ← Bool.and_assoc] at h
  unfold plOk
  rw [h]; rfl
theorem pl_no2 {p : Pl} (h : [p.q].all (inR 0 3) = false) : plOk p = false := by
  simp only [List.all_cons, List.all_nil, Bool.and_true] at h
  unfold plOk
  rw [h]; simp
theorem pl_yes {p : Pl} (h : [p.g, p.u, p.c].all (inR 0 1048576) = true) (h2 : [p.q].all (inR 0 3) = true) : plOk p = (inR (-1048576) 1048576 p.x && inR (-1048576) 1048576 p.y) := by
  simp only [List.all_cons, List.all_nil, Bool.and_true, ← Bool.and_assoc] at h h2
  unfold plOk
  rw [h, h2]; simp

set_option maxHeartbeats 1000000 in
theorem c_placeIn (p : Pl) (w : World) :
    Calls Tryd.prog 22 #[plV p] w fun e w' => e = .returned (.bool (plOk p)) ∧ Ext w w' := by
  unfold plV
  go_enter Tryd.func22, Tryd.ntmps22
  go_wp2_with fail
  refine (c_within _ _ _ _ _ (rdI_three (Blk.at (size_alloc _ _).symm))).mono ?_
  rintro e w1 ⟨rfl, rfl⟩
  cases h1 : [p.g, p.u, p.c].all (inR 0 1048576) with
  | false =>
    go_wp2
    go_ret
    exact ⟨ret_bool (pl_no1 h1).symm, ((Ext.refl w).alloc _).alloc _⟩
  | true =>
    go_wp2_with fail
    refine (c_within _ _ _ _ _ (rdI_one (Blk.at (by simp)))).mono ?_
    rintro e w1 ⟨rfl, rfl⟩
    replace h1 := Lib.hid h1
    cases h2 : [p.q].all (inR 0 3) with
    | false =>
      go_wp2
      go_ret
      exact ⟨ret_bool (pl_no2 h2).symm, (((Ext.refl w).alloc _).alloc _).alloc _⟩
    | true =>
      replace h2 := Lib.hid h2
      go_wp2_with fail
      refine (c_within _ _ _ _ _ (rdI_two (Blk.at (by simp)))).mono ?_
      rintro e w1 ⟨rfl, rfl⟩
      go_wp2
      go_ret
      exact ⟨ret_bool (pl_yes h1.out h2.out).symm, ((((Ext.refl w).alloc _).alloc _).alloc _).alloc _⟩

end Go.Proofs.YtmbjlbmfagfneaaDoor
