/- Contracts of the reference's functions on natural numbers, at 0 and 1. -/
import Derived.Test.YthfcllefmeoicaaChk
namespace Go.Proofs.Ythfcllefmeoicaa
open Go.RowKit

theorem info100 : (Try.prog.info? 100).map (fun i => (i.zero, i.size, i.bytes)) = some (some (.int .u32 0), 1, 4) := by kernel_rfl

theorem OwnL.rdN {E : TypeId} {B : Nat} {w : World} {v : Value} {l : List Int} (h : OwnL .u32 E B w v l) : RdN w v l := h.cells

set_option maxHeartbeats 400000 in
theorem c_limb (v : Value) (xs : List Int) (k : Int) (w : World) (h : RdN w v xs) (hb : ∀ x ∈ xs, 0 ≤ x ∧ x < 4294967296) (hk : 0 ≤ k) :
    Calls Try.prog 109 #[v, .int .i64 k] w fun e w' => e = .returned (.int .u64 (xs.getD k.toNat 0)) ∧ w = w' := by
  obtain ⟨A, cap, rfl, hcap, hmax, hc⟩ := h
  unfold maxLen at hmax
  obtain ⟨n, rfl⟩ := Int.eq_ofNat_of_zero_le hk
  rw [Int.toNat_natCast]
  by_cases hlt : n < xs.length
  · obtain ⟨b, o, rfl, hcell⟩ := hc n hlt
    have hx := hb xs[n] (List.getElem_mem hlt)
    obtain ⟨hx1, hx2⟩ := hx
    clear hc hb
    go_enter Try.func109, Try.ntmps109
    go_wp2
    go_ret
    refine ⟨ret_int ?_, rfl⟩
    rw [List.getD_eq_getElem?_getD, List.getElem?_eq_getElem hlt]
    simp
  · go_enter Try.func109, Try.ntmps109
    go_wp2
    go_ret
    exact ⟨ret_int (by simp [List.getD_eq_getElem?_getD, List.getElem?_eq_none (by omega : xs.length ≤ n)]), rfl⟩

set_option maxHeartbeats 400000 in
theorem c_rNorm (v : Value) (xs : List Int) (w : World) (h : RdN w v xs) (hl : xs.length ≤ 1000000) :
    Calls Try.prog 105 #[v] w fun e w' => ∃ u, e = .returned u ∧ RdN w' u (trimL xs) ∧ Fresh w.heap.size u ∧ Ext w w' := by
  have H := Lib.hid h
  obtain ⟨A, cap, rfl, hcap, hmax, hc⟩ := h
  unfold maxLen at hmax
  go_enter Try.func105, Try.ntmps105
  go_wp2
  go_loop [3] (fun i => ∃ k : Nat, k ≤ xs.length ∧ i = .int .i64 k ∧ TrimAt xs k) (fun i => (intOf i).toNat)
  case atStart => exact ⟨xs.length, Nat.le_refl _, rfl, TrimAt.start xs⟩
  case round =>
    obtain ⟨k, hk, rfl, hT⟩ := hrel
    rcases k with _ | k
    · go_wp2_with (at_builtin; refine wpList_appL rfl (.tmp 19) (.tmp 22) 43 rfl .u32 100 w.heap.size 4 Try.underlying43 info100 (by decide) _ [] [] _ _ rfl (OwnL.nil _ _ _ _) rfl ?_ ?_ ?_ ?_; (intro j hj; simp at hj); (simp); (exact Nat.le_refl _); (intro A' cap' w' ho hg hat))
      go_ret
      have hz : trimL xs = [] := by rw [hT.zero]; simp
      exact ⟨_, rfl, by rw [hz]; exact ho.rdN, ho.fresh, (OwnL.nil .u32 100 w.heap.size w).extGrown (Ext.refl _) (Nat.le_refl _) hg⟩
    · obtain ⟨b, o, rfl, hcell⟩ := hc k (by omega)
      have HC := Lib.hid hc
      clear hc
      by_cases h0 : (xs[k] == 0) = true
      · go_wp2
        go_round
        case rel => exact ⟨k, by omega, rfl, hT.down (by omega) h0⟩
        case measure => simp [intOf]
      · have h0 : (xs[k] == 0) = false := by simpa using h0
        have hst := Lib.hid (hT.stop (by omega) h0)
        have hlen : (xs.take (k + 1)).length = k + 1 := by simp; omega
        have HL := Lib.hid hlen
        clear hlen
        go_wp2_with (at_builtin; refine wpList_appL rfl (.tmp 19) (.tmp 22) 43 rfl .u32 100 w.heap.size 4 Try.underlying43 info100 (by decide) _ [] (xs.take (k + 1)) _ _ rfl (OwnL.nil _ _ _ _) (by rw [HL.out]; rfl) ?_ ?_ ?_ ?_; (intro j hj; rw [HL.out] at hj; obtain ⟨b', o', e', hh⟩ := HC.out j (by omega); exact ⟨b', o', e', by rw [hh]; simp⟩); (rw [HL.out]; simp; omega); (exact Nat.le_refl _); (intro A' cap' w' ho hg hat))
        go_ret
        rw [HL.out] at ho
        simp only [List.length_nil, Nat.zero_add, List.nil_append] at ho
        exact ⟨_, rfl, by rw [hst.out]; exact ho.rdN, ho.fresh, (OwnL.nil .u32 100 w.heap.size w).extGrown (Ext.refl _) (Nat.le_refl _) hg⟩

theorem c_rNormTo (ys : List Int) (v : Value) (xs : List Int) (w : World) (h : RdN w v xs) (hl : xs.length ≤ 1000000) (he : trimL xs = ys) :
    Calls Try.prog 105 #[v] w fun e w' => ∃ u, e = .returned u ∧ RdN w' u ys ∧ Fresh w.heap.size u ∧ Ext w w' := he ▸ c_rNorm v xs w h hl

set_option maxHeartbeats 400000 in
theorem c_rOf0 (w : World) : Calls Try.prog 106 #[.int .u64 0] w fun e w' => e = .returned (.slice none 0 0) ∧ w = w' := by
  go_enter Try.func106, Try.ntmps106
  go_wp2
  refine wp_loop_rounds 1 ?_
  rw [rounds_succ]
  go_wp2
  go_ret
  exact ⟨rfl, rfl⟩

set_option maxHeartbeats 400000 in
theorem c_rOf1 (w : World) : Calls Try.prog 106 #[.int .u64 1] w fun e w' => ∃ u, e = .returned u ∧ RdN w' u [1] ∧ Fresh w.heap.size u ∧ Ext w w' := by
  go_enter Try.func106, Try.ntmps106
  go_wp2
  refine wp_loop_rounds 2 ?_
  rw [rounds_succ]
  go_wp2_with (at_builtin; refine wpList_app1 rfl (.tmp 6) (.tmp 10) 43 rfl .u32 100 w.heap.size 4 Try.underlying43 info100 (by decide) _ [] 1 w.heap.size 1 rfl (OwnL.nil _ _ _ _) rfl ?_ ?_ ?_ ?_; (simp); (simp); (simp); (intro A' cap' w' ho hg hat))
  rw [rounds_succ]
  go_wp2
  go_ret
  exact ⟨_, rfl, ho.rdN, ho.fresh, (OwnL.nil .u32 100 w.heap.size _).extGrown ((Ext.refl _).alloc _) (Nat.le_refl _) hg⟩

set_option maxHeartbeats 400000 in
theorem c_bits0 (v : Value) (w : World) (h : RdN w v []) : Calls Try.prog 110 #[v] w fun e w' => e = .returned (.int .i64 0) ∧ Ext w w' := by
  obtain ⟨A, cap, rfl⟩ := h.slice
  have h := Lib.hid h
  go_enter Try.func110, Try.ntmps110
  go_wp2_with fail
  refine (c_rNormTo [] _ [] _ h.out (by simp) rfl).mono ?_
  rintro e w1 ⟨u, rfl, hu, _, he⟩
  obtain ⟨A1, cap1, rfl⟩ := hu.slice
  have he := Lib.hid he
  go_wp2
  go_ret
  exact ⟨rfl, he.out⟩

theorem RdN.one {w : World} {A : Option Addr} {cap : Nat} (h : RdN w (.slice A 1 cap) [1]) : ∃ b o, A = some ⟨b, o, none⟩ ∧ w.cell? ⟨b, o, none⟩ = some (.int .u32 1) := by
  obtain ⟨A', cap', e, _, _, hc⟩ := h
  injection e with e
  subst e
  obtain ⟨b, o, e, h⟩ := hc 0 (by simp)
  exact ⟨b, o, e, h⟩

set_option maxHeartbeats 400000 in
theorem c_bits1 (v : Value) (w : World) (h : RdN w v [1]) : Calls Try.prog 110 #[v] w fun e w' => e = .returned (.int .i64 1) ∧ Ext w w' := by
  obtain ⟨A, cap, rfl⟩ := h.slice
  have h := Lib.hid h
  go_enter Try.func110, Try.ntmps110
  go_wp2_with fail
  refine (c_rNormTo [1] _ [1] _ h.out (by simp) rfl).mono ?_
  rintro e w1 ⟨u, rfl, hu, _, he⟩
  obtain ⟨A1, cap1, rfl⟩ := hu.slice
  obtain ⟨b, o, rfl, hcell⟩ := RdN.one hu
  have he := Lib.hid he
  go_wp2
  refine wp_loop_rounds 2 ?_
  rw [rounds_succ]
  go_wp2
  rw [rounds_succ]
  go_wp2
  go_ret
  exact ⟨rfl, he.out⟩

theorem bd0 : ∀ x ∈ ([] : List Int), 0 ≤ x ∧ x < 4294967296 := by simp
theorem bd1 : ∀ x ∈ ([1] : List Int), 0 ≤ x ∧ x < 4294967296 := by simp

set_option maxHeartbeats 400000 in
theorem c_rCmp00 (v u : Value) (w : World) (h : RdN w v []) (g : RdN w u []) : Calls Try.prog 100 #[v, u] w fun e w' => e = .returned (.int .i64 0) ∧ w = w' := by
  obtain ⟨A, cap, rfl⟩ := h.slice
  obtain ⟨B, cap', rfl⟩ := g.slice
  go_enter Try.func100, Try.ntmps100
  go_wp2
  refine wp_loop_rounds 1 ?_
  rw [rounds_succ]
  go_wp2
  go_ret
  exact ⟨rfl, rfl⟩

set_option maxHeartbeats 400000 in
theorem c_rCmp11 (v u : Value) (w : World) (h : RdN w v [1]) (g : RdN w u [1]) : Calls Try.prog 100 #[v, u] w fun e w' => e = .returned (.int .i64 0) ∧ w = w' := by
  obtain ⟨A, cap, rfl⟩ := h.slice
  obtain ⟨B, cap', rfl⟩ := g.slice
  have h := Lib.hid h
  have g := Lib.hid g
  go_enter Try.func100, Try.ntmps100
  go_wp2
  refine wp_loop_rounds 2 ?_
  rw [rounds_succ]
  go_wp2_with fail
  refine (c_limb _ [1] 0 _ h.out bd1 (by omega)).mono ?_
  rintro e w1 ⟨rfl, rfl⟩
  go_wp2_with fail
  refine (c_limb _ [1] 0 _ g.out bd1 (by omega)).mono ?_
  rintro e w1 ⟨rfl, rfl⟩
  go_wp2_with fail
  refine (c_limb _ [1] 0 _ h.out bd1 (by omega)).mono ?_
  rintro e w1 ⟨rfl, rfl⟩
  go_wp2_with fail
  refine (c_limb _ [1] 0 _ g.out bd1 (by omega)).mono ?_
  rintro e w1 ⟨rfl, rfl⟩
  go_wp2_with fail
  rw [rounds_succ]
  go_wp2
  go_ret
  exact ⟨rfl, rfl⟩

set_option maxHeartbeats 400000 in
theorem c_rShift (v : Value) (w : World) (h : RdN w v [1]) : Calls Try.prog 111 #[v, .int .i64 0] w fun e w' => ∃ u, e = .returned u ∧ RdN w' u [1] ∧ Fresh w.heap.size u ∧ Ext w w' := by
  obtain ⟨A, cap, rfl⟩ := h.slice
  have h := Lib.hid h
  have hmk : ∀ w, (Instr.makeSlice 43 (.int .i64 0) (.int .i64 0)).run Try.prog w = .ok (.slice (some ⟨w.heap.size, 0, none⟩) 0 0) (w.alloc (.cells #[] 100)) := fun _ => by kernel_rfl
  have hown : OwnL .u32 100 w.heap.size (w.alloc (.cells #[] 100)) (.slice (some ⟨w.heap.size, 0, none⟩) 0 0) [] := World.ownsRow_made w #[] 0 (Nat.le_refl _) (by simp [maxLen]) rfl
  have hown := Lib.hid hown
  go_enter Try.func111, Try.ntmps111
  go_wp2
  refine wp_loop_rounds 3 ?_
  rw [rounds_succ]
  go_wp2_with fail
  refine (c_limb _ [1] 0 _ (h.out.ext ((Ext.refl _).alloc _)) bd1 (by omega)).mono ?_
  rintro e w1 ⟨rfl, rfl⟩
  go_wp2_with (at_builtin; refine wpList_app1 rfl (.tmp 27) (.tmp 31) 43 rfl .u32 100 w.heap.size 4 Try.underlying43 info100 (by decide) _ [] 1 (w.heap.size + 1) 1 rfl (hown.out.alloc _) rfl ?_ ?_ ?_ ?_; (simp); (simp); (simp; omega); (intro A' cap' w' ho hg hat))
  have hX1 := hown.out.alloc (.cells #[.int .u32 1] 100) |>.extGrown (((Ext.refl w).alloc _).alloc _) (Nat.le_refl _) hg
  have hX1 := Lib.hid hX1
  have ho := Lib.hid ho
  clear hat hg
  rw [rounds_succ]
  go_wp2_with fail
  refine (c_limb _ [1] 1 _ (h.out.ext hX1.out) bd1 (by omega)).mono ?_
  rintro e w2 ⟨rfl, rfl⟩
  go_wp2_with (at_builtin; refine wpList_app1 rfl (.tmp 27) (.tmp 31) 43 rfl .u32 100 w.heap.size 4 Try.underlying43 info100 (by decide) _ [1] 0 w'.heap.size 1 rfl (ho.out.alloc _) rfl ?_ ?_ ?_ ?_; (simp); (simp); (simp; have := hX1.out.size; omega); (intro A2 cap2 w2 ho2 hg2 hat2))
  have hX2 := ho.out.alloc (.cells #[.int .u32 0] 100) |>.extGrown (hX1.out.alloc _) (Nat.le_refl _) hg2
  have hX2 := Lib.hid hX2
  have ho2 := Lib.hid ho2
  clear hat2 hg2
  rw [rounds_succ]
  go_wp2_with fail
  refine (c_rNormTo [1] _ [1, 0] _ ho2.out.rdN (by simp) rfl).mono ?_
  rintro e w3 ⟨u3, rfl, h3, hf3, he3⟩
  have h3 := Lib.hid h3
  have hf3 := Lib.hid hf3
  have he3 := Lib.hid he3
  go_wp2
  go_ret
  exact ⟨_, rfl, h3.out, hf3.out.mono hX2.out.size, hX2.out.trans he3.out⟩

set_option maxHeartbeats 400000 in
theorem c_rSub (v u : Value) (w : World) (h : RdN w v [1]) (g : RdN w u [1]) : Calls Try.prog 112 #[v, u] w fun e w' => ∃ r, e = .returned (.tuple #[r, .bool true]) ∧ RdN w' r [] ∧ Fresh w.heap.size r ∧ Ext w w' := by
  obtain ⟨A, cap, rfl⟩ := h.slice
  obtain ⟨B, cap', rfl⟩ := g.slice
  have h := Lib.hid h
  have g := Lib.hid g
  go_enter Try.func112, Try.ntmps112
  go_wp2_with fail
  refine (c_rCmp11 _ _ _ h.out g.out).mono ?_
  rintro e w1 ⟨rfl, rfl⟩
  go_wp2_with fail
  refine wp_loop_rounds 2 ?_
  rw [rounds_succ]
  go_wp2_with fail
  refine (c_limb _ [1] 0 _ h.out bd1 (by omega)).mono ?_
  rintro e w1 ⟨rfl, rfl⟩
  go_wp2_with fail
  refine (c_limb _ [1] 0 _ g.out bd1 (by omega)).mono ?_
  rintro e w1 ⟨rfl, rfl⟩
  go_wp2_with (at_builtin; refine wpList_app1 rfl (.tmp 33) (.tmp 37) 43 rfl .u32 100 w.heap.size 4 Try.underlying43 info100 (by decide) _ [] 0 w.heap.size 1 rfl (OwnL.nil _ _ _ _) rfl ?_ ?_ ?_ ?_; (simp); (simp); (simp); (intro A' cap' w' ho hg hat))
  have hX1 := (OwnL.nil .u32 100 w.heap.size (w.alloc (.cells #[.int .u32 0] 100))).extGrown ((Ext.refl w).alloc _) (Nat.le_refl _) hg
  have hX1 := Lib.hid hX1
  have ho := Lib.hid ho
  clear hat hg
  rw [rounds_succ]
  go_wp2_with fail
  refine (c_rNormTo [] _ [0] _ ho.out.rdN (by simp) rfl).mono ?_
  rintro e w3 ⟨u3, rfl, h3, hf3, he3⟩
  have h3 := Lib.hid h3
  have hf3 := Lib.hid hf3
  have he3 := Lib.hid he3
  go_wp2
  go_ret2
  exact ⟨_, rfl, h3.out, hf3.out.mono hX1.out.size, hX1.out.trans he3.out⟩

set_option maxHeartbeats 400000 in
theorem c_rHalf (v : Value) (w : World) (h : RdN w v [1]) : Calls Try.prog 113 #[v] w fun e w' => ∃ r, e = .returned r ∧ RdN w' r [] ∧ Fresh w.heap.size r ∧ Ext w w' := by
  obtain ⟨A, cap, rfl⟩ := h.slice
  have h := Lib.hid h
  go_enter Try.func113, Try.ntmps113
  go_wp2_with fail
  refine wp_loop_rounds 2 ?_
  rw [rounds_succ]
  go_wp2_with fail
  refine (c_limb _ [1] 0 _ h.out bd1 (by omega)).mono ?_
  rintro e w1 ⟨rfl, rfl⟩
  go_wp2_with fail
  refine (c_limb _ [1] 1 _ h.out bd1 (by omega)).mono ?_
  rintro e w1 ⟨rfl, rfl⟩
  go_wp2_with (at_builtin; refine wpList_app1 rfl (.tmp 11) (.tmp 24) 43 rfl .u32 100 w.heap.size 4 Try.underlying43 info100 (by decide) _ [] 0 w.heap.size 1 rfl (OwnL.nil _ _ _ _) rfl ?_ ?_ ?_ ?_; (simp); (simp); (simp); (intro A' cap' w' ho hg hat))
  have hX1 := (OwnL.nil .u32 100 w.heap.size (w.alloc (.cells #[.int .u32 0] 100))).extGrown ((Ext.refl w).alloc _) (Nat.le_refl _) hg
  have hX1 := Lib.hid hX1
  have ho := Lib.hid ho
  clear hat hg
  rw [rounds_succ]
  go_wp2_with fail
  refine (c_rNormTo [] _ [0] _ ho.out.rdN (by simp) rfl).mono ?_
  rintro e w3 ⟨u3, rfl, h3, hf3, he3⟩
  have h3 := Lib.hid h3
  have hf3 := Lib.hid hf3
  have he3 := Lib.hid he3
  go_wp2
  go_ret
  exact ⟨_, rfl, h3.out, hf3.out.mono hX1.out.size, hX1.out.trans he3.out⟩
end Go.Proofs.Ythfcllefmeoicaa
