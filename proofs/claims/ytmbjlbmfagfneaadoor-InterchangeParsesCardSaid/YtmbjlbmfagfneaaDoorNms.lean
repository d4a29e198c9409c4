/- numbers of the program: the numbers of words. -/
import Derived.Test.YtmbjlbmfagfneaaDoorNmb
namespace Go.Proofs.YtmbjlbmfagfneaaDoor
open Go Go.RowKit

/-- zs is the list l, each number as far as it is told apart -/
def SatL (l zs : List Int) : Prop := l.length = zs.length ∧ ∀ j (h : j < l.length) (h' : j < zs.length), Sat l[j] zs[j]
theorem SatL.nil : SatL [] [] := ⟨rfl, fun j h => absurd h (by simp)⟩
theorem SatL.snoc {l zs : List Int} {n z : Int} (h : SatL l zs) (hz : Sat n z) : SatL (l ++ [n]) (zs ++ [z]) := by
  refine ⟨by simp [h.1], fun j h1 h2 => ?_⟩
  simp only [List.length_append, List.length_cons, List.length_nil] at h1 h2
  rcases Nat.lt_or_ge j l.length with hj | hj
  · have hj' : j < zs.length := by rw [← h.1]; exact hj
    rw [List.getElem_append_left hj, List.getElem_append_left hj']
    exact h.2 j hj hj'
  · have hj1 : j = l.length := by omega
    have hj2 : j = zs.length := by rw [hj1, h.1]
    rw [List.getElem_append_right (by omega), List.getElem_append_right (by omega)]
    simpa using hz

theorem nums_app : ∀ (a b : List B), nums (a ++ b) = (nums a).bind fun x => (nums b).map fun y => x ++ y
  | [], b => by cases h : nums b <;> simp [nums, h]
  | w :: a, b => by
    rw [List.cons_append, nums, nums, nums_app a b]
    cases num w with
    | none => rfl
    | some n =>
      cases nums a with
      | none => rfl
      | some x => cases nums b <;> rfl

theorem nums_snoc {a : List B} {l : List Int} {w : B} {n : Int} (h : nums a = some l) (hn : num w = some n) : nums (a ++ [w]) = some (l ++ [n]) := by
  rw [nums_app, h]
  simp [nums, hn]
theorem nums_fail {a b : List B} {w : B} (hn : num w = none) : nums (a ++ w :: b) = none := by
  rw [nums_app]
  have : nums (w :: b) = none := by rw [nums, hn]
  rw [this]
  cases nums a <;> rfl

theorem info3 : (Tryd.prog.info? 3).map (fun i => (i.zero, i.size, i.bytes)) = some (some (.int .i64 0), 1, 8) := by kernel_rfl

/-- how numbers ends -/
def NumsOut (ws : List ByteArray) (w : World) (e : Ending) (w' : World) : Prop :=
  Ext w w' ∧ ((nums (ws.map bs) = none ∧ e = .returned (.tuple #[.slice none 0 0, .bool false])) ∨
    (∃ l zs v, nums (ws.map bs) = some l ∧ SatL l zs ∧ e = .returned (.tuple #[v, .bool true]) ∧ OwnL .i64 3 w.heap.size w' v zs))

/-- what the loop of numbers keeps -/
structure NumsUp (ws : List ByteArray) (k : Nat) (l zs : List Int) : Prop where
  nums : nums ((ws.take k).map bs) = some l
  sat : SatL l zs
  len : zs.length = k

theorem NumsUp.next {ws : List ByteArray} {k : Nat} {l zs : List Int} (h : NumsUp ws k l zs) (hk : k < ws.length) {n z : Int} (hn : num (bs ws[k]) = some n) (hz : Sat n z) : NumsUp ws (k + 1) (l ++ [n]) (zs ++ [z]) := by
  refine ⟨?_, h.sat.snoc hz, by simp [h.len]⟩
  rw [take_snoc ws k hk, List.map_append]
  exact nums_snoc h.nums hn
theorem nums_take_none (ws : List ByteArray) (k : Nat) (hk : k < ws.length) (hn : num (bs ws[k]) = none) : nums (ws.map bs) = none := by
  have e : ws.map bs = (ws.take k).map bs ++ bs ws[k] :: (ws.drop (k + 1)).map bs := by
    rw [← List.map_cons, ← List.drop_eq_getElem_cons hk, ← List.map_append, List.take_append_drop]
  rw [e]; exact nums_fail hn

set_option maxHeartbeats 1000000 in
theorem c_numbers (v : Value) (ws : List ByteArray) (w : World) (h : RdS w v ws) (hs : ∀ x ∈ ws, x.size ≤ 30000) (hl : ws.length ≤ 100000) : Calls Tryd.prog 45 #[v] w (NumsOut ws w) := by
  obtain ⟨A, cap, rfl, hcap, hmax, hc⟩ := h
  unfold maxLen at hmax
  go_enter Tryd.func45, Tryd.ntmps45
  go_wp2
  go_loopw [4, 11] (fun v i wr => ∃ (k : Nat) (l zs : List Int), k ≤ ws.length ∧ i = .int .i64 k ∧ NumsUp ws k l zs ∧ OwnL .i64 3 w.heap.size wr v zs ∧ Ext w wr) (fun _ i _ => ws.length - (intOf i).toNat)
  case atStart => exact ⟨0, [], [], Nat.zero_le _, rfl, ⟨rfl, SatL.nil, rfl⟩, OwnL.nil _ _ _ _, Ext.refl _⟩
  case round =>
    obtain ⟨k, l, zs, hk, rfl, hup, hown, hext⟩ := hrel
    obtain ⟨A', cap', rfl⟩ := hown.slice
    have hlen := Lib.hid hup.len
    replace hown := Lib.hid hown
    by_cases hlt : k < ws.length
    · obtain ⟨b, o, rfl, hcell⟩ := hc k hlt
      have hcell := hext.cell hcell
      have hsk := hs _ (List.getElem_mem hlt)
      replace hext := Lib.hid hext
      clear hc hs
      go_wp2_with fail
      refine (c_number ws[k] _ hsk).mono ?_
      rintro e w1 ⟨z, ok, rfl, hok, hz, hx⟩
      replace hx := Lib.hid hx
      replace hz := Lib.hid hz
      cases hnum : num (bs ws[k]) with
      | none =>
        rw [hnum] at hok
        obtain rfl : ok = false := hok
        have hno := Lib.hid (nums_take_none ws k hlt hnum)
        go_wp2
        go_ret2
        exact ⟨hext.out.trans hx.out, .inl ⟨hno.out, rfl⟩⟩
      | some n =>
        rw [hnum] at hok
        obtain rfl : ok = true := hok
        have hup2 := Lib.hid (hup.next hlt hnum (hz.out n hnum))
        have ho1 := Lib.hid (hown.out.ext hx.out)
        have hx2 := Lib.hid (hext.out.trans hx.out)
        clear hz
        go_wp2_with (at_builtin; refine wpList_app1 rfl (.tmp 22) (.tmp 24) 24 rfl .i64 3 w.heap.size 8 Tryd.underlying24 info3 (by decide) _ zs z w1.heap.size 1 rfl (ho1.out.alloc _) rfl ?_ ?_ ?_ ?_; (simp); (have := hlen.out; omega); (have := hx2.out.size; simp; omega); (intro A2 cap2 w2 ho hg hat))
        go_roundw
        case rel => exact ⟨k + 1, l ++ [n], zs ++ [z], by omega, by go_num, hup2.out, ho, (ho1.out.alloc _).extGrown (hx2.out.alloc _) (Nat.le_refl _) hg⟩
        case measure => simp [intOf]; omega
    · go_wp2
      go_ret2
      refine ⟨hext, .inr ⟨l, zs, _, ?_, hup.sat, rfl, hown.out⟩⟩
      rw [← hup.nums, List.take_of_length_le (by omega)]

end Go.Proofs.YtmbjlbmfagfneaaDoor
