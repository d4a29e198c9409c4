/- Contracts of the functions on natural numbers, integers and ratios, at the few values that a name's check comes to: 0 and 1. -/
import Derived.Test.YtiahfiopigjolaaGreatBase
import Derived.Laws.CopyOwn
namespace Go.Proofs.YtiahfiopigjolaaGreat
open Go.RowKit

/-- The slice value v reads as the limbs xs. -/
def RdN (w : World) (v : Value) (xs : List Int) : Prop :=
  ∃ A cap, v = .slice A xs.length cap ∧ xs.length ≤ cap ∧ cap ≤ maxLen ∧ ∀ j (h : j < xs.length), ∃ b o, A = some ⟨b, o, none⟩ ∧ w.cell? ⟨b, o + j, none⟩ = some (.int .u32 xs[j])

theorem RdN.ext {w w' : World} {v : Value} {xs : List Int} (h : RdN w v xs) (he : Ext w w') : RdN w' v xs := by
  obtain ⟨A, cap, rfl, h1, h2, h3⟩ := h
  refine ⟨A, cap, rfl, h1, h2, fun j hj => ?_⟩
  obtain ⟨b, o, rfl, hc⟩ := h3 j hj
  exact ⟨b, o, rfl, he.cell hc⟩
theorem RdN.nil (w : World) : RdN w (.slice none 0 0) [] := ⟨none, 0, rfl, by simp, by simp [maxLen], fun j h => absurd h (by simp)⟩
theorem RdN.cut {w : World} {A : Option Addr} {n cap : Nat} {xs : List Int} (h : RdN w (.slice A n cap) xs) (k : Nat) (hk : k ≤ xs.length) : RdN w (.slice A k cap) (xs.take k) := by
  obtain ⟨A', cap', he, h1, h2, h3⟩ := h
  injection he with e1 e2 e3
  subst e1 e2 e3
  refine ⟨A, cap, by rw [List.length_take, Nat.min_eq_left hk], by rw [List.length_take]; omega, h2, fun j hj => ?_⟩
  rw [List.length_take] at hj
  obtain ⟨b, o, rfl, hc⟩ := h3 j (by omega)
  exact ⟨b, o, rfl, by rw [hc]; simp⟩

theorem RdN.far {w : World} {v : Value} {xs : List Int} (h : RdN w v xs) {B : Nat} (hf : Fresh B v) {p : Addr} (hp : p.block < B) (u : Value) : RdN (w.setCell p u) v xs := by
  obtain ⟨A, cap, rfl, h1, h2, h3⟩ := h
  refine ⟨A, cap, rfl, h1, h2, fun j hj => ?_⟩
  obtain ⟨b, o, rfl, hc⟩ := h3 j hj
  refine ⟨b, o, rfl, ?_⟩
  have hb : B ≤ b := hf.block
  rw [World.cell?_setCell_other w p _ u (fun e => by subst e; simp at hp; omega)]
  exact hc
theorem RdN.empty {w w' : World} {v : Value} (h : RdN w v []) : RdN w' v [] := by
  obtain ⟨A, cap, rfl, h1, h2, h3⟩ := h
  exact ⟨A, cap, rfl, h1, h2, fun j hj => absurd hj (by simp)⟩
theorem RdN.slice {w : World} {v : Value} {xs : List Int} (h : RdN w v xs) : ∃ A cap, v = .slice A xs.length cap := by
  obtain ⟨A, cap, h, _⟩ := h; exact ⟨A, cap, h⟩
theorem RdN.made {w : World} {b : Nat} {t : TypeId} {xs : List Int} (h : Blk w b t (xs.map (Value.int .u32)).toArray) (hm : xs.length ≤ maxLen) : RdN w (.slice (some ⟨b, 0, none⟩) xs.length xs.length) xs :=
  ⟨_, _, rfl, Nat.le_refl _, hm, fun j hj => ⟨b, 0, rfl, by rw [h.cell]; simp [hj]⟩⟩

/-- the limbs without the zeros at the end -/
def trimL (xs : List Int) : List Int := (xs.reverse.dropWhile (· == 0)).reverse

/-- k limbs are left, those behind are 0 -/
def TrimAt (xs : List Int) (k : Nat) : Prop := trimL xs = trimL (xs.take k)

theorem trimL_snoc_zero (xs : List Int) : trimL (xs ++ [0]) = trimL xs := by simp [trimL]
theorem trimL_snoc_ne (xs : List Int) (x : Int) (h : ¬ x = 0) : trimL (xs ++ [x]) = xs ++ [x] := by simp [trimL, h]

theorem TrimAt.start (xs : List Int) : TrimAt xs xs.length := by simp [TrimAt]
theorem TrimAt.down {xs : List Int} {k : Nat} (h : TrimAt xs (k + 1)) (hk : k < xs.length) (h0 : (xs[k] == 0) = true) : TrimAt xs k := by
  unfold TrimAt at *
  rw [h, take_snoc xs k hk]
  have : xs[k] = 0 := by simpa using h0
  rw [this, trimL_snoc_zero]
theorem TrimAt.stop {xs : List Int} {k : Nat} (h : TrimAt xs (k + 1)) (hk : k < xs.length) (h0 : (xs[k] == 0) = false) : trimL xs = xs.take (k + 1) := by
  unfold TrimAt at *
  rw [h, take_snoc xs k hk]
  exact trimL_snoc_ne _ _ (by simpa using h0)
theorem TrimAt.zero {xs : List Int} (h : TrimAt xs 0) : trimL xs = xs.take 0 := by unfold TrimAt at h; rw [h]; simp [trimL]

set_option maxHeartbeats 400000 in
theorem c_trim (v : Value) (xs : List Int) (w : World) (h : RdN w v xs) :
    Calls Tryz.prog 92 #[v] w fun e w' => ∃ u, e = .returned u ∧ RdN w u (trimL xs) ∧ (∀ B, Fresh B v → Fresh B u) ∧ w = w' := by
  have H := Lib.hid h
  obtain ⟨A, cap, rfl, hcap, hmax, hc⟩ := h
  unfold maxLen at hmax
  go_enter Tryz.func92, Tryz.ntmps92
  go_wp2
  go_loop [3] (fun i => ∃ k : Nat, k ≤ xs.length ∧ i = .int .i64 k ∧ TrimAt xs k) (fun i => (intOf i).toNat)
  case atStart => exact ⟨xs.length, Nat.le_refl _, rfl, TrimAt.start xs⟩
  case round =>
    obtain ⟨k, hk, rfl, hT⟩ := hrel
    rcases k with _ | k
    · go_wp2
      go_ret
      exact ⟨_, rfl, by rw [hT.zero]; exact H.out.cut 0 (by omega), fun B hB a n c e => by (injection e with e; exact hB a _ _ (by rw [e])), rfl⟩
    · obtain ⟨b, o, rfl, hcell⟩ := hc k (by omega)
      clear hc
      go_wp2
      · go_round
        case rel => exact ⟨k, by omega, rfl, hT.down (by omega) (by assumption)⟩
        case measure => simp [intOf]
      · go_ret
        exact ⟨_, rfl, by rw [hT.stop (by omega) (by assumption)]; exact H.out.cut (k + 1) (by omega), fun B hB a n c e => by (injection e with e; exact hB a _ _ (by rw [e])), rfl⟩

set_option maxHeartbeats 400000 in
/-- natural.Cmp at two numbers that are 0 -/
theorem c_natCmp0 (v u : Value) (xs ys : List Int) (w : World) (h : RdN w v xs) (g : RdN w u ys) (hx : trimL xs = []) (hy : trimL ys = []) :
    Calls Tryz.prog 83 #[v, u] w fun e w' => e = .returned (.int .i64 0) ∧ w = w' := by
  have hx := Lib.hid hx
  have hy := Lib.hid hy
  go_enter Tryz.func83, Tryz.ntmps83
  go_wp2_with fail
  refine (c_trim _ xs _ h).mono ?_
  rintro e w1 ⟨u1, rfl, h1, hfr, rfl⟩
  rw [hx.out] at h1
  obtain ⟨A1, cap1, rfl, _, _, _⟩ := h1
  go_wp2_with fail
  refine (c_trim _ ys _ g).mono ?_
  rintro e w1 ⟨u1, rfl, h1, hfr, rfl⟩
  rw [hy.out] at h1
  obtain ⟨A2, cap2, rfl, _, _, _⟩ := h1
  go_wp2
  go_loop [6] (fun i => i = .int .i64 (-1)) (fun i => 0)
  case atStart => rfl
  case round =>
    subst hrel
    go_wp2
    go_ret
    exact ⟨rfl, rfl⟩

set_option maxHeartbeats 400000 in
theorem c_ratZero (v : Value) (xs : List Int) (w : World) (h : RdN w v xs) (hx : trimL xs = []) :
    Calls Tryz.prog 80 #[v] w fun e w' => e = .returned (.bool true) ∧ w = w' := by
  have hx := Lib.hid hx
  go_enter Tryz.func80, Tryz.ntmps80
  go_wp2_with fail
  refine (c_natCmp0 _ _ xs [] _ h (RdN.nil _) hx.out rfl).mono ?_
  rintro e w1 ⟨rfl, rfl⟩
  go_wp2
  go_ret
  exact ⟨rfl, rfl⟩

set_option maxHeartbeats 400000 in
theorem c_natOf1 (w : World) : Calls Tryz.prog 81 #[.int .u64 1] w fun e w' => ∃ u, e = .returned u ∧ RdN w' u [1] ∧ Fresh w.heap.size u ∧ Ext w w' := by
  go_enter Tryz.func81, Tryz.ntmps81
  go_wp2_with fail
  refine (c_trim _ [1, 0] _ ?_).mono ?_
  · exact ⟨_, _, rfl, by simp, by simp [maxLen], fun j hj => ⟨_, _, rfl, by match j, hj with | 0, _ => simp | 1, _ => simp⟩⟩
  rintro e w1 ⟨u1, rfl, h1, hfr, rfl⟩
  have h1 := Lib.hid h1
  have hfr := Lib.hid (hfr w.heap.size (Fresh.mk _ _ _ _ _ _ (Nat.le_refl _)))
  go_wp2
  go_ret
  exact ⟨_, rfl, h1.out, hfr.out, (Ext.refl _).alloc _⟩

set_option maxHeartbeats 400000 in
/-- natural.Mul at 0 and 1 -/
theorem c_natMul01 (v u : Value) (xs ys : List Int) (w : World) (h : RdN w v xs) (g : RdN w u ys) (hx : trimL xs = []) (hy : trimL ys = [1]) :
    Calls Tryz.prog 85 #[v, u] w fun e w' => ∃ u, e = .returned u ∧ RdN w' u [] ∧ Ext w w' := by
  have hx := Lib.hid hx
  have hy := Lib.hid hy
  have hmk : ∀ w, (Instr.makeSlice 88 (.int .i64 1) (.int .i64 1)).run Tryz.prog w = .ok (.slice (some ⟨w.heap.size, 0, none⟩) 1 1) (w.alloc (.cells #[.int .u32 0] 122)) := fun _ => by kernel_rfl
  go_enter Tryz.func85, Tryz.ntmps85
  go_wp2_with fail
  refine (c_trim _ xs _ h).mono ?_
  rintro e w1 ⟨u1, rfl, h1, hfr, rfl⟩
  rw [hx.out] at h1
  obtain ⟨A1, cap1, rfl, _, _, _⟩ := h1
  go_wp2_with fail
  refine (c_trim _ ys _ g).mono ?_
  rintro e w1 ⟨u1, rfl, h1, hfr, rfl⟩
  rw [hy.out] at h1
  obtain ⟨A2, cap2, rfl, _, _, _⟩ := h1
  go_wp2
  go_loop [23] (fun i => i = .int .i64 0) (fun i => 0)
  case atStart => rfl
  case round =>
    subst hrel
    go_wp2_with fail
    refine (c_trim _ [0] _ ?_).mono ?_
    · exact ⟨_, _, rfl, by simp, by simp [maxLen], fun j hj => ⟨_, _, rfl, by match j, hj with | 0, _ => simp⟩⟩
    rintro e w1 ⟨u1, rfl, h1, hfr, rfl⟩
    have h1 := Lib.hid h1
    go_wp2
    go_ret
    exact ⟨_, rfl, h1.out, (Ext.refl _).alloc _⟩

set_option maxHeartbeats 400000 in
/-- natural.Norm at 0 -/
theorem c_natNorm0 (v : Value) (xs : List Int) (w : World) (h : RdN w v xs) (hx : trimL xs = []) :
    Calls Tryz.prog 94 #[v] w fun e w' => ∃ u, e = .returned u ∧ RdN w' u [] ∧ Ext w w' := by
  have hx := Lib.hid hx
  have hmk : ∀ w, (Instr.makeSlice 88 (.int .i64 0) (.int .i64 0)).run Tryz.prog w = .ok (.slice (some ⟨w.heap.size, 0, none⟩) 0 0) (w.alloc (.cells #[] 122)) := fun _ => by kernel_rfl
  go_enter Tryz.func94, Tryz.ntmps94
  go_wp2_with fail
  refine (c_trim _ xs _ h).mono ?_
  rintro e w1 ⟨u1, rfl, h1, hfr, rfl⟩
  rw [hx.out] at h1
  obtain ⟨A1, cap1, rfl, _, _, _⟩ := h1
  go_wp2_with (with_reducible refine wpList_copy_nothing rfl (.tmp 9) (.tmp 10) 88 88 rfl 122 Tryz.underlying88 (by kernel_rfl) _ _ _ _ _ _ rfl rfl rfl ?_)
  go_ret
  exact ⟨_, rfl, ⟨_, 0, rfl, by simp, by simp [maxLen], fun j hj => absurd hj (by simp)⟩, (Ext.refl _).alloc _⟩

end Go.Proofs.YtiahfiopigjolaaGreat
