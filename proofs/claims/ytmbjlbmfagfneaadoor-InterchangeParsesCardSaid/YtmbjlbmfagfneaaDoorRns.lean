/- numbers, all and split of the reference. -/
import Derived.Test.YtmbjlbmfagfneaaDoorRvl
namespace Go.Proofs.YtmbjlbmfagfneaaDoor
open Go Go.RowKit

set_option maxHeartbeats 1000000 in
theorem c_rnumbers (v : Value) (ws : List ByteArray) (w : World) (h : RdS w v ws) (hs : ∀ x ∈ ws, x.size ≤ 30000) (hl : ws.length ≤ 100000) : Calls Tryd.prog 46 #[v] w (NumsOut ws w) := by
  obtain ⟨A, cap, rfl, hcap, hmax, hc⟩ := h
  unfold maxLen at hmax
  go_enter Tryd.func46, Tryd.ntmps46
  go_wp2
  go_loopw [4, 5] (fun v i wr => ∃ (k : Nat) (l zs : List Int), k ≤ ws.length ∧ i = .int .i64 k ∧ NumsUp ws k l zs ∧ OwnL .i64 3 w.heap.size wr v zs ∧ Ext w wr) (fun _ i _ => ws.length - (intOf i).toNat)
  case atStart => exact ⟨0, [], [], Nat.zero_le _, rfl, ⟨rfl, SatL.nil, rfl⟩, OwnL.nil _ _ _ _, Ext.refl _⟩
  case round =>
    obtain ⟨k, l, zs, hk, rfl, hup, hown, hext⟩ := hrel
    obtain ⟨A', cap', rfl⟩ := hown.slice
    have hlen := Lib.hid hup.len
    replace hown := Lib.hid hown
    by_cases hlt : k < ws.length
    · obtain ⟨b, o, rfl, hcell⟩ := hc k hlt
      have hcell := hext.cell hcell
      have hsk := hs _ (List.getElem_mem hlt)
      replace hext := Lib.hid hext
      clear hc hs
      go_wp2_with fail
      refine (c_value ws[k] _ hsk).mono ?_
      rintro e w1 ⟨z, ok, rfl, hok, hz, hx⟩
      replace hx := Lib.hid hx
      replace hz := Lib.hid hz
      cases hnum : num (bs ws[k]) with
      | none =>
        rw [hnum] at hok
        obtain rfl : ok = false := hok
        have hno := Lib.hid (nums_take_none ws k hlt hnum)
        go_wp2
        go_ret2
        exact ⟨hext.out.trans hx.out, .inl ⟨hno.out, rfl⟩⟩
      | some n =>
        rw [hnum] at hok
        obtain rfl : ok = true := hok
        have hup2 := Lib.hid (hup.next hlt hnum (hz.out n hnum))
        have ho1 := Lib.hid (hown.out.ext hx.out)
        have hx2 := Lib.hid (hext.out.trans hx.out)
        clear hz
        go_wp2_with (at_builtin; refine wpList_app1 rfl (.tmp 24) (.tmp 26) 24 rfl .i64 3 w.heap.size 8 Tryd.underlying24 info3 (by decide) _ zs z w1.heap.size 1 rfl (ho1.out.alloc _) rfl ?_ ?_ ?_ ?_; (simp); (have := hlen.out; omega); (have := hx2.out.size; simp; omega); (intro A2 cap2 w2 ho hg hat))
        go_roundw
        case rel => exact ⟨k + 1, l ++ [n], zs ++ [z], by omega, by go_num, hup2.out, ho, (ho1.out.alloc _).extGrown (hx2.out.alloc _) (Nat.le_refl _) hg⟩
        case measure => simp [intOf]; omega
    · go_wp2
      go_ret2
      refine ⟨hext, .inr ⟨l, zs, _, ?_, hup.sat, rfl, hown.out⟩⟩
      rw [← hup.nums, List.take_of_length_le (by omega)]

theorem allR_hit {lo hi : Int} {l : List Int} {k : Nat} (h : k < l.length) (h1 : inR lo hi l[k] = false) : l.all (inR lo hi) = false := by
  cases e : l.all (inR lo hi) with
  | false => rfl
  | true => rw [List.all_eq_true.1 e _ (List.getElem_mem h)] at h1; cases h1
/-- the first k numbers are in range -/
structure AllUp (lo hi : Int) (l : List Int) (k : Nat) : Prop where
  all : (l.take k).all (inR lo hi) = true
theorem AllUp.next {lo hi : Int} {l : List Int} {k : Nat} (h : AllUp lo hi l k) (hk : k < l.length) (h1 : inR lo hi l[k] = true) : AllUp lo hi l (k + 1) := by
  refine ⟨?_⟩
  rw [take_snoc l k hk, List.all_append, h.all]
  simp [h1]
theorem AllUp.end_ {lo hi : Int} {l : List Int} {k : Nat} (h : AllUp lo hi l k) (hk : ¬ k < l.length) : l.all (inR lo hi) = true := by
  have := h.all
  rw [List.take_of_length_le (by omega)] at this; exact this

set_option maxHeartbeats 1000000 in
theorem c_rall (v : Value) (lo hi : Int) (xs : List Int) (w : World) (h : RdI w v xs) :
    Calls Tryd.prog 47 #[v, .int .i64 lo, .int .i64 hi] w fun e w' => e = .returned (.bool (xs.all (inR lo hi))) ∧ w = w' := by
  obtain ⟨A, cap, rfl, hcap, hmax, hc⟩ := h
  unfold maxLen at hmax
  go_enter Tryd.func47, Tryd.ntmps47
  go_wp2
  go_loop [7] (fun i => ∃ k : Nat, k ≤ xs.length ∧ i = .int .i64 k ∧ AllUp lo hi xs k) (fun i => xs.length - (intOf i).toNat)
  case atStart => exact ⟨0, Nat.zero_le _, rfl, ⟨by simp⟩⟩
  case round =>
    obtain ⟨k, hk, rfl, hup⟩ := hrel
    by_cases hlt : k < xs.length
    · obtain ⟨b, o, rfl, hcell⟩ := hc k hlt
      clear hc
      go_wp2_with fail
      refine (c_rwithin _ _ _ _).mono ?_
      rintro e w1 ⟨rfl, rfl⟩
      rcases hz : inR lo hi xs[k] with _ | _
      · go_wp2
        go_ret
        exact ⟨ret_bool (allR_hit hlt hz).symm, rfl⟩
      · have hup2 := Lib.hid (hup.next hlt hz)
        replace hz := Lib.hid hz
        go_wp2
        go_round
        case rel => exact ⟨k + 1, by omega, by go_num, hup2.out⟩
        case measure => simp [intOf]; omega
    · have hall := Lib.hid (hup.end_ hlt)
      go_wp2
      go_ret
      exact ⟨ret_bool hall.out.symm, rfl⟩

end Go.Proofs.YtmbjlbmfagfneaaDoor
