/- Contracts of ContainsFunc on spots, polyline.Check. -/
import Derived.Test.YtiahfiopigjolaaGreatSpl
namespace Go.Proofs.YtiahfiopigjolaaGreat
open Go Go.RowKit

/-- no spot outside among the first k -/
structure InTo (xs : List Sp) (k : Nat) : Prop where
  no : (xs.take k).any outB = false
theorem InTo.zero (xs : List Sp) : InTo xs 0 := ⟨by simp⟩
theorem InTo.next {xs : List Sp} {k : Nat} (h : InTo xs k) (hk : k < xs.length) (hn : outB xs[k] = false) : InTo xs (k + 1) := by
  refine ⟨?_⟩
  rw [take_snoc _ _ hk, List.any_append, h.no]
  simp [hn]
theorem InTo.hit {xs : List Sp} {k : Nat} (hk : k < xs.length) (hn : outB xs[k] = true) : xs.any outB = true :=
  List.any_eq_true.2 ⟨_, List.getElem_mem hk, hn⟩
theorem InTo.done {xs : List Sp} {k : Nat} (h : InTo xs k) (hk : ¬ k < xs.length) : xs.any outB = false := by
  have := h.no
  rwa [List.take_of_length_le (by omega)] at this
/-- how IndexFunc ends -/
def AnyOut (xs : List Sp) (w : World) (e : Ending) (w' : World) : Prop := ∃ i : Int, e = .returned (.int .i64 i) ∧ (0 ≤ i ↔ xs.any outB = true) ∧ Ext w w'

set_option maxHeartbeats 1000000 in
theorem c_plIndexF (v : Value) (xs : List Sp) (w : World) (h : RdL 2 spP w v xs) : Calls Tryz.prog 48 #[v, .func (.func 38) #[] #[]] w (AnyOut xs w) := by
  obtain ⟨A, c, rfl⟩ := h.slice
  have hmax := h.le
  unfold maxLen at hmax
  replace h := Lib.hid h
  go_enter Tryz.func48, Tryz.ntmps48
  go_wp2
  go_loopw [8] (fun i wr => ∃ k : Nat, k ≤ xs.length ∧ i = .int .i64 (k : Nat) ∧ InTo xs k ∧ Ext w wr) (fun i _ => xs.length - (intOf i).toNat)
  case atStart => exact ⟨0, Nat.zero_le _, rfl, InTo.zero _, Ext.refl _⟩
  case round =>
    obtain ⟨k, hk, rfl, hup, hX⟩ := hrel
    by_cases hlt : k < xs.length
    · obtain ⟨b, o, rfl, c0, c1⟩ := h.out.sp k hlt
      have hnx := Lib.hid (fun h => hup.next hlt h)
      have hit := Lib.hid (fun h => InTo.hit hlt h)
      obtain ⟨f, hf⟩ : ∃ f, f = xs[k] := ⟨_, rfl⟩
      rw [← hf] at c0 c1 hnx hit
      clear hf
      have hco := Lib.hid (fun w => c_plOutside f w)
      unfold spV at hco
      replace c0 := hX.cell c0
      replace c1 := hX.cell c1
      replace hX := Lib.hid hX
      replace hup := Lib.hid hup
      have hki : (k : Int) < xs.length := by omega
      go_wp2_with fail
      refine (hco.out _).mono ?_
      rintro e w1 ⟨rfl, hx⟩
      have hX1 := Lib.hid (hX.out.trans hx)
      clear hx
      rcases hob : outB f with _ | _
      · have hup2 := Lib.hid (hnx.out hob)
        replace hob := Lib.hid hob
        go_wp2
        go_roundw
        case rel => exact ⟨k + 1, by omega, by go_num, hup2.out, hX1.out⟩
        case measure => simp [intOf]; omega
      · have hh := Lib.hid (hit.out hob)
        replace hob := Lib.hid hob
        go_wp2
        go_ret
        exact ⟨k, rfl, ⟨fun _ => hh.out, fun _ => by omega⟩, hX1.out⟩
    · have hd := Lib.hid (hup.done hlt)
      have hki : ¬ (k : Int) < xs.length := by omega
      replace hX := Lib.hid hX
      go_wp2
      go_ret
      exact ⟨-1, rfl, ⟨fun h => absurd h (by omega), fun h => by rw [hd.out] at h; cases h⟩, hX.out⟩

set_option maxHeartbeats 1000000 in
theorem c_plAnyOut (v : Value) (xs : List Sp) (w : World) (h : RdL 2 spP w v xs) : Calls Tryz.prog 37 #[v, .func (.func 38) #[] #[]] w fun e w' => e = .returned (.bool (xs.any outB)) ∧ Ext w w' := by
  have hc := Lib.hid (fun w h => c_plIndexF v xs w h)
  obtain ⟨A, c, rfl⟩ := h.slice
  replace h := Lib.hid h
  go_enter Tryz.func37, Tryz.ntmps37
  go_wp2_with fail
  refine (hc.out _ h.out).mono ?_
  rintro e w1 ⟨i, rfl, hi, hx⟩
  replace hx := Lib.hid hx
  replace hi := Lib.hid hi
  go_wp2
  go_ret
  exact ⟨ret_bool (by rw [Bool.eq_iff_iff]; simp only [decide_eq_true_eq]; exact hi.out), hx.out⟩

set_option maxHeartbeats 1000000 in
theorem c_pgIndexF (v : Value) (xs : List Sp) (w : World) (h : RdL 2 spP w v xs) : Calls Tryz.prog 48 #[v, .func (.func 46) #[] #[]] w (AnyOut xs w) := by
  obtain ⟨A, c, rfl⟩ := h.slice
  have hmax := h.le
  unfold maxLen at hmax
  replace h := Lib.hid h
  go_enter Tryz.func48, Tryz.ntmps48
  go_wp2
  go_loopw [8] (fun i wr => ∃ k : Nat, k ≤ xs.length ∧ i = .int .i64 (k : Nat) ∧ InTo xs k ∧ Ext w wr) (fun i _ => xs.length - (intOf i).toNat)
  case atStart => exact ⟨0, Nat.zero_le _, rfl, InTo.zero _, Ext.refl _⟩
  case round =>
    obtain ⟨k, hk, rfl, hup, hX⟩ := hrel
    by_cases hlt : k < xs.length
    · obtain ⟨b, o, rfl, c0, c1⟩ := h.out.sp k hlt
      have hnx := Lib.hid (fun h => hup.next hlt h)
      have hit := Lib.hid (fun h => InTo.hit hlt h)
      obtain ⟨f, hf⟩ : ∃ f, f = xs[k] := ⟨_, rfl⟩
      rw [← hf] at c0 c1 hnx hit
      clear hf
      have hco := Lib.hid (fun w => c_pgOutside f w)
      unfold spV at hco
      replace c0 := hX.cell c0
      replace c1 := hX.cell c1
      replace hX := Lib.hid hX
      replace hup := Lib.hid hup
      have hki : (k : Int) < xs.length := by omega
      go_wp2_with fail
      refine (hco.out _).mono ?_
      rintro e w1 ⟨rfl, hx⟩
      have hX1 := Lib.hid (hX.out.trans hx)
      clear hx
      rcases hob : outB f with _ | _
      · have hup2 := Lib.hid (hnx.out hob)
        replace hob := Lib.hid hob
        go_wp2
        go_roundw
        case rel => exact ⟨k + 1, by omega, by go_num, hup2.out, hX1.out⟩
        case measure => simp [intOf]; omega
      · have hh := Lib.hid (hit.out hob)
        replace hob := Lib.hid hob
        go_wp2
        go_ret
        exact ⟨k, rfl, ⟨fun _ => hh.out, fun _ => by omega⟩, hX1.out⟩
    · have hd := Lib.hid (hup.done hlt)
      have hki : ¬ (k : Int) < xs.length := by omega
      replace hX := Lib.hid hX
      go_wp2
      go_ret
      exact ⟨-1, rfl, ⟨fun h => absurd h (by omega), fun h => by rw [hd.out] at h; cases h⟩, hX.out⟩

set_option maxHeartbeats 1000000 in
theorem c_pgAnyOut (v : Value) (xs : List Sp) (w : World) (h : RdL 2 spP w v xs) : Calls Tryz.prog 37 #[v, .func (.func 46) #[] #[]] w fun e w' => e = .returned (.bool (xs.any outB)) ∧ Ext w w' := by
  have hc := Lib.hid (fun w h => c_pgIndexF v xs w h)
  obtain ⟨A, c, rfl⟩ := h.slice
  replace h := Lib.hid h
  go_enter Tryz.func37, Tryz.ntmps37
  go_wp2_with fail
  refine (hc.out _ h.out).mono ?_
  rintro e w1 ⟨i, rfl, hi, hx⟩
  replace hx := Lib.hid hx
  replace hi := Lib.hid hi
  go_wp2
  go_ret
  exact ⟨ret_bool (by rw [Bool.eq_iff_iff]; simp only [decide_eq_true_eq]; exact hi.out), hx.out⟩

theorem plCheck_many {l : List Sp} (h : 40 < l.length) : plCheck l = 5 := by unfold plCheck; rw [if_pos h]
theorem plCheck_few {l : List Sp} (h : ¬ 40 < l.length) (h2 : l.length < 2) : plCheck l = 11 := by unfold plCheck; rw [if_neg h, if_pos h2]
theorem plCheck_out {l : List Sp} (h : ¬ 40 < l.length) (h2 : ¬ l.length < 2) (h3 : l.any outB = true) : plCheck l = 3 := by unfold plCheck; rw [if_neg h, if_neg h2, if_pos h3]
theorem plCheck_adj {l : List Sp} (h : ¬ 40 < l.length) (h2 : ¬ l.length < 2) (h3 : l.any outB = false) : plCheck l = upto (adjE l) (l.length - 1) := by
  unfold plCheck; rw [if_neg h, if_neg h2, if_neg (by rw [h3]; decide)]
/-- the first k tests say nothing -/
structure Pass (f : Nat → Int) (k : Nat) : Prop where
  no : upto f k = 0
theorem Pass.zero (f : Nat → Int) : Pass f 0 := ⟨rfl⟩
theorem Pass.next {f : Nat → Int} {k : Nat} (h : Pass f k) (hf : f k = 0) : Pass f (k + 1) := ⟨upto_next h.no hf⟩
theorem Pass.hit {f : Nat → Int} {k n : Nat} {c : Int} (h : Pass f k) (hk : k < n) (hf : f k = c) (hc : c ≠ 0) : upto f n = c := by
  rw [upto_hit h.no (by rw [hf]; exact hc) hk, hf]
theorem Pass.done {f : Nat → Int} {k n : Nat} (h : Pass f k) (hk : ¬ k < n) (hle : k ≤ n) : upto f n = 0 := by
  rw [show n = k by omega]; exact h.no
theorem adjE_same {l : List Sp} {k : Nat} (hk : k + 1 < l.length) (h : l[k]'(by omega) = l[k + 1]) : adjE l k = 11 := by
  unfold adjE; rw [nth_eq l (by omega), nth_eq l hk, if_pos h]
theorem adjE_other {l : List Sp} {k : Nat} (hk : k + 1 < l.length) (h : ¬ l[k]'(by omega) = l[k + 1]) : adjE l k = 0 := by
  unfold adjE; rw [nth_eq l (by omega), nth_eq l hk, if_neg h]

set_option maxHeartbeats 1000000 in
theorem c_plCheck (v : Value) (xs : List Sp) (w : World) (h : RdL 2 spP w v xs) : Calls Tryz.prog 23 #[v] w fun e w' => e = .returned (.int .i64 (plCheck xs)) ∧ Ext w w' := by
  have hc := Lib.hid (fun w h => c_plAnyOut v xs w h)
  obtain ⟨A, c, rfl⟩ := h.slice
  replace h := Lib.hid h
  go_enter Tryz.func23, Tryz.ntmps23
  by_cases h40 : 40 < xs.length
  · have hp := Lib.hid (plCheck_many h40)
    go_wp2
    go_ret
    exact ⟨ret_int hp.out.symm, Ext.refl w⟩
  · by_cases h2 : xs.length < 2
    · have hp := Lib.hid (plCheck_few h40 h2)
      go_wp2
      go_ret
      exact ⟨ret_int hp.out.symm, Ext.refl w⟩
    · go_wp2_with fail
      refine (hc.out _ h.out).mono ?_
      rintro e w1 ⟨rfl, hx⟩
      replace hx := Lib.hid hx
      rcases ho : xs.any outB with _ | _
      rotate_left
      · have hp := Lib.hid (plCheck_out h40 h2 ho)
        replace ho := Lib.hid ho
        go_wp2
        go_ret
        exact ⟨ret_int hp.out.symm, hx.out⟩
      · have hp := Lib.hid (plCheck_adj h40 h2 ho)
        replace ho := Lib.hid ho
        obtain ⟨n, hn⟩ : ∃ n, n + 1 = xs.length := ⟨xs.length - 1, by omega⟩
        have hn1 : xs.length - 1 = n := by omega
        rw [hn1] at hp
        have hnI : IntKind.i64.wrap ((xs.length : Int) - 1) = (n : Int) := (IntWalk.i64_in _ (by omega)).trans (by omega)
        clear hn1
        go_wp2
        go_loopw [15] (fun i wr => ∃ k : Nat, k ≤ n ∧ i = .int .i64 (k : Nat) ∧ Pass (adjE xs) k ∧ Ext w wr) (fun i _ => n - (intOf i).toNat)
        case atStart => exact ⟨0, Nat.zero_le _, rfl, Pass.zero _, hx.out⟩
        case round =>
          obtain ⟨k, hk, rfl, hup, hX⟩ := hrel
          by_cases hlt : k < n
          · obtain ⟨b, o, rfl, c0, c1⟩ := h.out.sp k (by omega)
            obtain ⟨b', o', e', d0, d1⟩ := h.out.sp (k + 1) (by omega)
            injection e' with e'
            injection e' with e5 e6 _
            subst e5 e6
            have hkk : k + 1 < xs.length := by omega
            have hsame := Lib.hid (fun (h : xs[k]'(by omega) = xs[k + 1]) => hup.hit hlt (adjE_same hkk h) (by omega))
            have hnx := Lib.hid (fun (h : ¬ xs[k]'(by omega) = xs[k + 1]) => hup.next (adjE_other hkk h))
            obtain ⟨f, hf⟩ : ∃ f, f = xs[k]'(by omega) := ⟨_, rfl⟩
            obtain ⟨s, hs⟩ : ∃ s, s = xs[k + 1]'(by omega) := ⟨_, rfl⟩
            rw [← hf] at c0 c1 hsame hnx
            rw [← hs] at d0 d1 hsame hnx
            clear hf hs
            replace c0 := hX.cell c0
            replace c1 := hX.cell c1
            replace d0 := hX.cell d0
            replace d1 := hX.cell d1
            have lb := World.block_lt_of_cell? _ _ c0
            replace hX := Lib.hid hX
            replace hup := Lib.hid hup
            have hki : (k : Int) < n := by omega
            have hk1 : (k : Int) < xs.length := by omega
            have hk2 : (k : Int) + 1 < xs.length := by omega
            replace hn := Lib.hid hn
            by_cases hx : f.x = s.x
            · by_cases hy : f.y = s.y
              · have he := Lib.hid (hsame.out (sp_eq hx.symm hy.symm))
                have e0 : (f.x == s.x) = true := by simp [hx]
                have e1 : (f.y == s.y) = true := by simp [hy]
                replace hx := Lib.hid hx
                replace hy := Lib.hid hy
                go_wp2_with fail
                go_quiet (fail)
                go_wp2
                go_ret
                exact ⟨ret_int (by rw [hp.out, he.out]), hX.out.drewN _⟩
              · have hup2 := Lib.hid (hnx.out (fun e => hy (by rw [e])))
                have e0 : (f.x == s.x) = true := by simp [hx]
                have e1 : (f.y == s.y) = false := by simp [hy]
                replace hx := Lib.hid hx
                replace hy := Lib.hid hy
                go_wp2_with fail
                go_quiet (fail)
                go_wp2
                go_roundw
                case rel => exact ⟨k + 1, by omega, by go_num, hup2.out, hX.out.drewN _⟩
                case measure => simp [intOf]; omega
            · have hup2 := Lib.hid (hnx.out (fun e => hx (by rw [e])))
              have e0 : (f.x == s.x) = false := by simp [hx]
              replace hx := Lib.hid hx
              go_wp2_with fail
              go_quiet (fail)
              go_wp2
              go_roundw
              case rel => exact ⟨k + 1, by omega, by go_num, hup2.out, hX.out.drewN _⟩
              case measure => simp [intOf]; omega
          · have hd := Lib.hid (hup.done hlt hk)
            have hki : ¬ (k : Int) < n := by omega
            replace hX := Lib.hid hX
            go_wp2
            go_ret
            exact ⟨ret_int (by rw [hp.out, hd.out]), hX.out⟩

end Go.Proofs.YtiahfiopigjolaaGreat
