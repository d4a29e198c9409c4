/- numbers of the program: the numbers of words. -/
import Derived.Test.YtphaigncbenmmaaGreatDoorHas
import Derived.Test.YtphaigncbenmmaaGreatDoorDig
namespace Go.Proofs.YtphaigncbenmmaaGreatDoor
open Go Go.RowKit

theorem dig_snoc {l : B} {k : Nat} (h : k < l.length) (h0 : (l.take k).all isDig = true) (h1 : ¬ l[k].toNat < 48) (h2 : ¬ 57 < l[k].toNat) : (l.take (k + 1)).all isDig = true := by
  rw [take_snoc l k h, List.all_append, h0]
  simp [isDig]; omega
theorem dig_hit {l : B} {k : Nat} (h : k < l.length) (h1 : l[k].toNat < 48 ∨ 57 < l[k].toNat) : l.all isDig = false := by
  cases e : l.all isDig with
  | false => rfl
  | true =>
    have := of_decide_eq_true (List.all_eq_true.1 e _ (List.getElem_mem h))
    omega
theorem dig_end {l : B} {k : Nat} (h : ¬ k < l.length) (h0 : (l.take k).all isDig = true) : l.all isDig = true := by
  rw [List.take_of_length_le (by omega)] at h0; exact h0

/-- the first k bytes are digits -/
structure DigUp (D : ByteArray) (k : Nat) : Prop where
  all : ((bs D).take k).all isDig = true

/-- how numbers ends -/
def NumsOut (ws : List ByteArray) (w : World) (e : Ending) (w' : World) : Prop :=
  Ext w w' ∧ ((nums18 (ws.map bs) = none ∧ e = .returned (.tuple #[.slice none 0 0, .bool false])) ∨
    (∃ l v, nums18 (ws.map bs) = some l ∧ e = .returned (.tuple #[v, .bool true]) ∧ OwnL .i64 3 w.heap.size w' v l))

/-- what the loop of numbers keeps -/
structure NumsUp (ws : List ByteArray) (k : Nat) (l : List Int) : Prop where
  nums : nums18 ((ws.take k).map bs) = some l
  len : l.length = k
theorem NumsUp.next {ws : List ByteArray} {k : Nat} {l : List Int} (h : NumsUp ws k l) (hk : k < ws.length) {n : Int} (hn : num18 (bs ws[k]) = some n) : NumsUp ws (k + 1) (l ++ [n]) := by
  refine ⟨?_, by simp [h.len]⟩
  rw [take_snoc ws k hk, List.map_append]
  exact nums18_snoc h.nums hn
theorem nums_take_none (ws : List ByteArray) (k : Nat) (hk : k < ws.length) (hn : num18 (bs ws[k]) = none) : nums18 (ws.map bs) = none := by
  have e : ws.map bs = (ws.take k).map bs ++ bs ws[k] :: (ws.drop (k + 1)).map bs := by
    rw [← List.map_cons, ← List.drop_eq_getElem_cons hk, ← List.map_append, List.take_append_drop]
  rw [e]; exact nums18_fail hn

set_option maxHeartbeats 1000000 in
theorem c_numbers (v : Value) (ws : List ByteArray) (w : World) (h : RdS w v ws) (hs : ∀ x ∈ ws, x.size ≤ 30000) (hl : ws.length ≤ 100000) : Calls Tryz.prog 47 #[v] w (NumsOut ws w) := by
  obtain ⟨A, cap, rfl, hcap, hmax, hc⟩ := h
  unfold maxLen at hmax
  go_enter Tryz.func47, Tryz.ntmps47
  go_wp2
  go_loopw [4, 13] (fun v i wr => ∃ (k : Nat) (l : List Int), k ≤ ws.length ∧ i = .int .i64 k ∧ NumsUp ws k l ∧ OwnL .i64 3 w.heap.size wr v l ∧ Ext w wr) (fun _ i _ => ws.length - (intOf i).toNat)
  case atStart => exact ⟨0, [], Nat.zero_le _, rfl, ⟨rfl, rfl⟩, OwnL.nil _ _ _ _, Ext.refl _⟩
  case round =>
    obtain ⟨k, l, hk, rfl, hup, hown, hext⟩ := hrel
    obtain ⟨A', cap', rfl⟩ := hown.slice
    have hlen := Lib.hid hup.len
    replace hown := Lib.hid hown
    replace hup := Lib.hid hup
    by_cases hlt : k < ws.length
    · obtain ⟨b, o, rfl, hcell⟩ := hc k hlt
      have hcell := hext.cell hcell
      have hsk := hs _ (List.getElem_mem hlt)
      replace hext := Lib.hid hext
      have hno : num18 (bs ws[k]) = none → nums18 (ws.map bs) = none := nums_take_none ws k hlt
      replace hno := Lib.hid hno
      obtain ⟨s, hsd⟩ : ∃ s, s = ws[k] := ⟨_, rfl⟩
      rw [← hsd] at hcell hsk
      replace hsd := Lib.hid hsd
      clear hc hs
      go_wp2_with fail
      refine (l_trim s _).mono ?_
      rintro e w1 ⟨rfl, rfl⟩
      rw [digs_unsign]
      obtain ⟨D, hD⟩ : ∃ D, D = ofB (digs (bs s)) := ⟨_, rfl⟩
      have hbD : bs D = digs (bs s) := by rw [hD, bs_ofB]
      rw [← hD]
      replace hbD := Lib.hid hbD
      clear hD
      have hsz : (digs (bs s)).length = D.size := by rw [← hbD.out, bs_len]
      have hD30 : D.size ≤ 30000 := by
        have h1 : (digs (bs s)).length ≤ (bs s).length := by
          unfold digs; split
          · rw [List.length_tail]; omega
          · exact Nat.le_refl _
        rw [hsz, bs_len] at h1
        omega
      replace hsz := Lib.hid hsz
      by_cases h0 : D.size < 1
      · have hnn := Lib.hid (hno.out (no18_num (num_bad (.inl (by rw [← hsd.out, ← hbD.out]; exact List.length_eq_zero_iff.1 (by rw [bs_len]; omega))))))
        go_wp2
        go_ret2
        exact ⟨hext.out, .inl ⟨hnn.out, rfl⟩⟩
      by_cases h18 : 18 < D.size
      · have hnn := Lib.hid (hno.out (no18_long (by rw [← hsd.out, hsz.out]; exact h18)))
        go_wp2
        go_ret2
        exact ⟨hext.out, .inl ⟨hnn.out, rfl⟩⟩
      have hz0 : 0 < D.size := by omega
      have hhd : (digs (bs s)).head? = some D[0] := by
        rw [← hbD.out, List.head?_eq_getElem?, List.getElem?_eq_getElem (by rw [bs_len]; exact hz0)]; rfl
      replace hhd := Lib.hid hhd
      by_cases hm0 : s = ⟨#[45, 48]⟩
      · have hnn := Lib.hid (hno.out (no18_num (by rw [← hsd.out, hm0]; rfl)))
        have hm1 : s.toList = [45, 48] := by rw [ByteArray.toList_eq, hm0]
        go_wp2
        go_ret2
        exact ⟨hext.out, .inl ⟨hnn.out, rfl⟩⟩
      have hm1 : ¬ s.toList = [45, 48] := by
        rw [ByteArray.toList_eq]
        exact fun e => hm0 (bs_inj e)
      have hmz := Lib.hid (show ¬ (neg (bs s) = true ∧ digs (bs s) = [48]) from fun h => hm0 (bs_inj (minus_zero.2 h)))
      clear hm0
      by_cases h1z : (1 : Int) < D.size ∧ (D[0].toNat : Int) = 48
      · have hnn := Lib.hid (hno.out (no18_num (num_bad (.inr ⟨by
            rw [← hsd.out, hhd.out]
            congr 1
            apply UInt8.toNat_inj.1
            show D[0].toNat = 48
            omega, .inl (by rw [← hsd.out, hsz.out]; omega)⟩))))
        obtain ⟨z1, z2⟩ := h1z
        go_wp2
        go_ret2
        exact ⟨hext.out, .inl ⟨hnn.out, rfl⟩⟩
      have hG : ¬ (digs (bs s) = [] ∨ ((digs (bs s)).head? = some 48 ∧ (1 < (digs (bs s)).length ∨ neg (bs s) = true))) := by
        rintro (h1 | ⟨h1, h2⟩)
        · rw [← hbD.out] at h1
          have := List.length_eq_zero_iff.2 h1
          rw [bs_len] at this
          omega
        · have h1' := h1
          rw [hhd.out] at h1
          have e : D[0] = 48 := Option.some.inj h1
          have e48 : (D[0].toNat : Int) = 48 := by rw [e]; rfl
          rcases h2 with h2 | h2
          · rw [hsz.out] at h2
            exact h1z ⟨by omega, e48⟩
          · refine hmz.out ⟨h2, ?_⟩
            have hl1 : (digs (bs s)).length = 1 := by
              rw [hsz.out]
              rcases Nat.lt_or_ge 1 D.size with h3 | h3
              · exact absurd ⟨by omega, e48⟩ h1z
              · omega
            match hdg : digs (bs s), hl1 with
            | [c], _ =>
              rw [hdg] at h1'
              exact congrArg (fun c => [c]) (Option.some.inj h1')
      replace hG := Lib.hid hG
      have i0 : ¬ (D.size : Int) < 1 := by omega
      have i18 : ¬ (18 : Int) < D.size := by omega
      have im : (s.toList == [45, 48]) = false := by simp [hm1]
      clear h0 h18 hm1
      rcases Decidable.em ((1 : Int) < D.size) with z1 | z1
      focus
        have z2 : ((D[0].toNat : Int) == 48) = false := by
          rw [beq_eq_false_iff_ne]
          exact fun h => h1z ⟨z1, h⟩
        replace h1z := Lib.hid h1z
        go_wp2
      rotate_left
      focus
        replace h1z := Lib.hid h1z
        go_wp2
      all_goals
        go_loop [43] (fun i => ∃ j : Nat, j ≤ D.size ∧ i = .int .i64 j ∧ DigUp D j) (fun i => D.size - (intOf i).toNat)
        case atStart => exact ⟨0, Nat.zero_le _, rfl, ⟨by simp⟩⟩
        case round =>
          obtain ⟨j, hj, rfl, hdu⟩ := hrel
          by_cases hjl : j < D.size
          · have hkl : j < (bs D).length := by rw [bs_len]; exact hjl
            have hkd := Lib.hid (show (bs D)[j].toNat = D[j].toNat from rfl)
            replace hdu := Lib.hid hdu
            by_cases h1 : (D[j].toNat : Int) < 48
            · have hnn := Lib.hid (hno.out (no18_num (num_nodig (by rw [← hsd.out, ← hbD.out]; exact dig_hit hkl (.inl (by have := hkd.out; omega))))))
              go_wp2
              go_ret2
              exact ⟨hext.out, .inl ⟨hnn.out, rfl⟩⟩
            · by_cases h2 : (57 : Int) < D[j].toNat
              · have hnn := Lib.hid (hno.out (no18_num (num_nodig (by rw [← hsd.out, ← hbD.out]; exact dig_hit hkl (.inr (by have := hkd.out; omega))))))
                go_wp2
                go_ret2
                exact ⟨hext.out, .inl ⟨hnn.out, rfl⟩⟩
              · go_wp2
                go_round
                case rel =>
                  first
                    | exact ⟨j + 1, by omega, by go_num, ⟨dig_snoc hkl hdu.out.all (by have := hkd.out; omega) (by have := hkd.out; omega)⟩⟩
                    | exact ⟨_, _, _, _, ⟨j + 1, by omega, by go_num, ⟨dig_snoc hkl hdu.out.all (by have := hkd.out; omega) (by have := hkd.out; omega)⟩⟩, rfl, rfl, rfl, rfl⟩
                case measure => simp [intOf]; omega
          · have hall : (digs (bs s)).all isDig = true := by
              rw [← hbD.out]; exact dig_end (by rw [bs_len]; exact hjl) hdu.all
            obtain ⟨n, hn⟩ := num_dig hG.out hall
            have hn18 := Lib.hid (show num18 (bs ws[k]) = some n by rw [← hsd.out]; exact yes18 hn (by rw [hsz.out]; omega))
            have hat := Lib.hid (num_atoi hn (by rw [hsz.out]; omega))
            have hs19 : s.size ≤ 19 := by
              have h1 : (bs s).length ≤ (digs (bs s)).length + 1 := by
                unfold digs; split
                · rw [List.length_tail]; omega
                · omega
              rw [hsz.out, bs_len] at h1
              omega
            have hup2 := Lib.hid (hup.out.next hlt hn18.out)
            clear hall hn
            go_wp2_with fail
            refine (l_atoi s hs19 n hat.out _).mono ?_
            rintro e w2 ⟨rfl, hx⟩
            have ho1 := Lib.hid (hown.out.ext hx)
            have hx2 := Lib.hid (hext.out.trans hx)
            replace hx := Lib.hid hx
            go_wp2_with (at_builtin; refine wpList_app1 rfl (.tmp 64) (.tmp 66) 49 rfl .i64 3 w.heap.size 8 Tryz.underlying49 info_int (by decide) _ l n w2.heap.size 1 rfl (ho1.out.alloc _) rfl ?_ ?_ ?_ ?_; (simp); (have := hlen.out; omega); (have := hx2.out.size; simp; omega); (intro A2 cap2 w3 ho hg hat2))
            go_roundw
            case rel => exact ⟨k + 1, l ++ [n], by omega, by go_num, hup2.out, ho, (ho1.out.alloc _).extGrown (hx2.out.alloc _) (Nat.le_refl _) hg⟩
            case measure => simp [intOf]; omega
    · go_wp2
      go_ret2
      refine ⟨hext, .inr ⟨l, _, ?_, rfl, hown.out⟩⟩
      rw [← hup.out.nums, List.take_of_length_le (by omega)]

end Go.Proofs.YtphaigncbenmmaaGreatDoor
