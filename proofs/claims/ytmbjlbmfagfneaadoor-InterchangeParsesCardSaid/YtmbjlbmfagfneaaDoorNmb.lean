/- number and numbers of the program. -/
import Derived.Test.YtmbjlbmfagfneaaDoorNum
import Derived.Test.YtmbjlbmfagfneaaDoorDig
namespace Go.Proofs.YtmbjlbmfagfneaaDoor
open Go Go.RowKit

theorem l_cutMinus (s : ByteArray) (w : World) :
    Calls Tryd.prog 67 #[.string s, .string ⟨#[45]⟩] w fun e w' => e = .returned (.tuple #[.string (ofB (digs (bs s))), .bool (neg (bs s))]) ∧ w' = w := by
  have h := Tryd.strings_CutPrefix s ⟨#[45]⟩ w
  have e1 : Lib.trimPrefix s.data.toList (⟨#[45]⟩ : ByteArray).data.toList = digs (bs s) := pre_digs (bs s)
  have e2 : Lib.hasPrefix s.data.toList (⟨#[45]⟩ : ByteArray).data.toList = neg (bs s) := pre_neg (bs s)
  rw [e1, e2] at h
  exact h

theorem dig_snoc {l : B} {k : Nat} (h : k < l.length) (h0 : (l.take k).all isDig = true) (h1 : ¬ l[k].toNat < 48) (h2 : ¬ 57 < l[k].toNat) : (l.take (k + 1)).all isDig = true := by
  rw [take_snoc l k h, List.all_append, h0]
  simp [isDig]; omega
theorem dig_hit {l : B} {k : Nat} (h : k < l.length) (h1 : l[k].toNat < 48 ∨ 57 < l[k].toNat) : l.all isDig = false := by
  cases e : l.all isDig with
  | false => rfl
  | true =>
    have := of_decide_eq_true (List.all_eq_true.1 e _ (List.getElem_mem h))
    omega
theorem dig_end {l : B} {k : Nat} (h : ¬ k < l.length) (h0 : (l.take k).all isDig = true) : l.all isDig = true := by
  rw [List.take_of_length_le (by omega)] at h0; exact h0

/-- the first k bytes are digits -/
structure DigUp (D : ByteArray) (k : Nat) : Prop where
  all : ((bs D).take k).all isDig = true

/-- how number ends -/
def NumOut (s : ByteArray) (w : World) (e : Ending) (w' : World) : Prop := ∃ z ok, e = .returned (.tuple #[.int .i64 z, .bool ok]) ∧ ok = (num (bs s)).isSome ∧ (∀ n, num (bs s) = some n → Sat n z) ∧ Ext w w'
theorem NumOut.no {s : ByteArray} {w : World} (h : num (bs s) = none) : NumOut s w (.returned (.tuple #[.int .i64 0, .bool false])) w :=
  ⟨0, false, rfl, by rw [h]; rfl, fun n hn => (by rw [h] at hn; cases hn), Ext.refl _⟩
theorem NumOut.yes {s : ByteArray} {w w' : World} {n z : Int} (h : num (bs s) = some n) (hz : Sat n z) (he : Ext w w') : NumOut s w (.returned (.tuple #[.int .i64 z, .bool true])) w' :=
  ⟨z, true, rfl, by rw [h]; rfl, fun m hm => (by rw [h] at hm; cases hm; exact hz), he⟩

theorem num_bad {w : B} (h : digs w = [] ∨ ((digs w).head? = some 48 ∧ (1 < (digs w).length ∨ neg w = true))) : num w = none := by rw [num_parts, if_pos h]
theorem num_nodig {w : B} (h : (digs w).all isDig = false) : num w = none := by
  rw [num_parts]
  split
  · rfl
  · rw [dec_not _ _ h]; rfl
theorem num_dig {w : B} (h : ¬ (digs w = [] ∨ ((digs w).head? = some 48 ∧ (1 < (digs w).length ∨ neg w = true)))) (hd : (digs w).all isDig = true) : ∃ n, num w = some n := by
  obtain ⟨m, hm⟩ := dec_all (digs w) 0 hd
  rw [num_parts, if_neg h, hm]
  exact ⟨_, rfl⟩

set_option maxHeartbeats 1000000 in
theorem c_number (s : ByteArray) (w : World) (hs : s.size ≤ 30000) : Calls Tryd.prog 56 #[.string s] w (NumOut s w) := by
  go_enter Tryd.func56, Tryd.ntmps56
  go_wp2_with fail
  refine (l_cutMinus s w).mono ?_
  rintro e w1 ⟨rfl, rfl⟩
  obtain ⟨D, hD⟩ : ∃ D, D = ofB (digs (bs s)) := ⟨_, rfl⟩
  have hbD : bs D = digs (bs s) := by rw [hD, bs_ofB]
  obtain ⟨ng, hng⟩ : ∃ ng, ng = neg (bs s) := ⟨_, rfl⟩
  rw [← hD, ← hng]
  replace hng := Lib.hid hng
  replace hbD := Lib.hid hbD
  clear hD
  have hD30 : D.size ≤ 30000 := by
    have h1 : (digs (bs s)).length ≤ (bs s).length := by
      unfold digs; split
      · rw [List.length_tail]; omega
      · exact Nat.le_refl _
    rw [← hbD.out, bs_len, bs_len] at h1
    omega
  by_cases h0 : D.size = 0
  · have tN : D.toList = [] := by rw [ByteArray.toList_eq]; exact List.length_eq_zero_iff.1 h0
    have tE : D.toList.isEmpty = true := by rw [tN]; rfl
    go_wp2
    go_ret2
    exact NumOut.no (num_bad (.inl (by rw [← hbD.out]; exact List.length_eq_zero_iff.1 h0)))
  · have tN : ¬ D.toList = [] := by rw [ByteArray.toList_eq]; exact fun h => h0 (List.length_eq_zero_iff.2 h)
    have tE : D.toList.isEmpty = false := by
      cases e : D.toList.isEmpty with
      | false => rfl
      | true => exact absurd (List.isEmpty_iff.1 e) tN
    have hz0 : 0 < D.size := by omega
    have hhd : (digs (bs s)).head? = some D[0] := by
      rw [← hbD.out, List.head?_eq_getElem?, List.getElem?_eq_getElem (by rw [bs_len]; exact hz0)]; rfl
    replace hhd := Lib.hid hhd
    have hsz : (digs (bs s)).length = D.size := by rw [← hbD.out, bs_len]
    replace hsz := Lib.hid hsz
    have hgood : ∀ (h : ¬ ((D[0].toNat : Int) = 48 ∧ ((1 : Int) < D.size ∨ ng = true))), ¬ (digs (bs s) = [] ∨ ((digs (bs s)).head? = some 48 ∧ (1 < (digs (bs s)).length ∨ neg (bs s) = true))) := by
      rintro h (h1 | ⟨h1, h2⟩)
      · rw [← hbD.out] at h1
        exact h0 (List.length_eq_zero_iff.2 h1)
      · rw [hhd.out] at h1
        have e : D[0] = 48 := Option.some.inj h1
        refine h ⟨by rw [e]; rfl, ?_⟩
        rw [hsz.out, ← hng.out] at h2
        rcases h2 with h2 | h2
        · exact .inl (by omega)
        · exact .inr h2
    have hbad : ∀ (h : (D[0].toNat : Int) = 48) (h2 : (1 : Int) < D.size ∨ ng = true), num (bs s) = none := by
      intro h h2
      refine num_bad (.inr ⟨?_, ?_⟩)
      · rw [hhd.out]
        congr 1
        apply UInt8.toNat_inj.1
        show D[0].toNat = 48
        omega
      · rw [hsz.out, ← hng.out]
        rcases h2 with h2 | h2
        · exact .inl (by omega)
        · exact .inr h2
    replace hgood := Lib.hid hgood
    replace hbad := Lib.hid hbad
    go_wp2
    rotate_left
    rotate_left
    · rename_i x1 x2
      go_ret2
      exact NumOut.no (hbad.out x1 (.inl x2))
    rotate_left
    · rename_i x1 x2 x3
      go_ret2
      exact NumOut.no (hbad.out x1 x3)
    all_goals
      have hG := Lib.hid (hgood.out (by
        first
          | exact fun h => absurd h.1 (by assumption)
          | (have x3 := (by assumption : (D.size : Int) ≤ 1 ∧ ng = false)
             rintro ⟨_, h | h⟩
             · omega
             · rw [x3.2] at h; cases h)))
      clear hgood hbad
      go_loop [31] (fun i => ∃ k : Nat, k ≤ D.size ∧ i = .int .i64 k ∧ DigUp D k) (fun i => D.size - (intOf i).toNat)
      case atStart => exact ⟨0, Nat.zero_le _, rfl, ⟨by simp⟩⟩
      case round =>
        obtain ⟨k, hk, rfl, hno⟩ := hrel
        by_cases hlt : k < D.size
        · have hkl : k < (bs D).length := by rw [bs_len]; exact hlt
          have hkd := Lib.hid (show (bs D)[k].toNat = D[k].toNat from rfl)
          by_cases h1 : (D[k].toNat : Int) < 48
          · go_wp2
            go_ret2
            exact NumOut.no (num_nodig (by rw [← hbD.out]; exact dig_hit hkl (.inl (by have := hkd.out; omega))))
          · by_cases h2 : (57 : Int) < D[k].toNat
            · go_wp2
              go_ret2
              exact NumOut.no (num_nodig (by rw [← hbD.out]; exact dig_hit hkl (.inr (by have := hkd.out; omega))))
            · go_wp2
              go_round
              case rel =>
                first
                  | exact ⟨k + 1, by omega, by go_num, ⟨dig_snoc hkl hno.all (by have := hkd.out; omega) (by have := hkd.out; omega)⟩⟩
                  | exact ⟨_, _, _, _, ⟨k + 1, by omega, by go_num, ⟨dig_snoc hkl hno.all (by have := hkd.out; omega) (by have := hkd.out; omega)⟩⟩, rfl, rfl, rfl, rfl⟩
              case measure => simp [intOf]; omega
        · have hall : (digs (bs s)).all isDig = true := by
            rw [← hbD.out]; exact dig_end (by rw [bs_len]; exact hlt) hno.all
          obtain ⟨n, hn⟩ := num_dig hG.out hall
          replace hn := Lib.hid hn
          clear hall
          by_cases h18 : (18 : Int) < D.size
          · have hbig := Lib.hid (num_big hn.out (by rw [hsz.out]; omega))
            cases ng
            · go_wp2
              all_goals
                go_ret2
                exact NumOut.yes hn.out (.inr (.inl ⟨hbig.out.2 hng.out.symm, by omega⟩)) (Ext.refl _)
            · go_wp2
              all_goals
                go_ret2
                exact NumOut.yes hn.out (.inr (.inr ⟨hbig.out.1 hng.out.symm, by omega⟩)) (Ext.refl _)
          · have hat := Lib.hid (num_atoi hn.out (by rw [hsz.out]; omega))
            have hs19 : s.size ≤ 19 := by
              have h1 : (bs s).length ≤ (digs (bs s)).length + 1 := by
                unfold digs; split
                · rw [List.length_tail]; omega
                · omega
              rw [hsz.out, bs_len] at h1
              omega
            go_wp2_with fail
            refine (l_atoi s hs19 n hat.out _).mono ?_
            rintro e w2 ⟨rfl, hx⟩
            replace hx := Lib.hid hx
            go_wp2_with fail
            go_quiet (fail)
            go_wp2
            go_ret2
            exact NumOut.yes hn.out (.inl rfl) (hx.out.drewN _)

end Go.Proofs.YtmbjlbmfagfneaaDoor
