/- value of the reference. -/
import Derived.Test.YtmbjlbmfagfneaaDoorLPs
namespace Go.Proofs.YtmbjlbmfagfneaaDoor
open Go Go.RowKit

theorem byte48' {x : UInt8} (h : ((x.toNat : Int) == 48) = true) : x = 48 := by
  rw [beq_iff_eq] at h
  apply UInt8.toNat_inj.1
  show x.toNat = 48
  omega
theorem bad_head {w : B} {c : UInt8} (h : (digs w).head? = some c) (hc : c = 48) (hw : w ≠ [48]) : digs w = [] ∨ ((digs w).head? = some 48 ∧ (1 < (digs w).length ∨ neg w = true)) := by
  subst hc
  right
  refine ⟨h, ?_⟩
  cases hn : neg w with
  | true => exact .inr rfl
  | false =>
    left
    have hd : digs w = w := by unfold digs; rw [hn]; rfl
    rw [hd] at h ⊢
    match w, h with
    | [a], h =>
      have : a = 48 := by simpa using h
      exact absurd (by rw [this]) hw
    | a :: b :: r, _ => simp
theorem good_head {w : B} {c : UInt8} {ng : Bool} (h : (digs w).head? = some c) (hl : (digs w).length ≠ 0) (hng : ng = neg w) (hb : ¬ (c = 48 ∧ w ≠ [48])) : ¬ (digs w = [] ∨ ((digs w).head? = some 48 ∧ (1 < (digs w).length ∨ neg w = true))) := by
  rintro (h1 | ⟨h1, h2⟩)
  · rw [h1] at hl; simp at hl
  · rw [h] at h1
    have hc : c = 48 := Option.some.inj h1
    refine hb ⟨hc, ?_⟩
    rintro rfl
    rcases h2 with h2 | h2
    · simp [digs, neg] at h2
    · simp [neg] at h2

/-- the first k digits spell M -/
structure DecUp (D : ByteArray) (k M : Nat) : Prop where
  dec : Lib.decFrom 0 ((bs D).take k) = some M
theorem DecUp.next {D : ByteArray} {k M : Nat} (h : DecUp D k M) (hk : k < (bs D).length) (h1 : 48 ≤ (bs D)[k].toNat) (h2 : (bs D)[k].toNat ≤ 57) : DecUp D (k + 1) (M * 10 + ((bs D)[k].toNat - 48)) := by
  refine ⟨?_⟩
  rw [take_snoc _ _ hk, decFrom_app, h.dec]
  show Lib.decFrom M [(bs D)[k]] = _
  rw [Lib.decFrom, show Lib.digitVal (bs D)[k] = some ((bs D)[k].toNat - 48) by unfold Lib.digitVal; rw [if_pos ⟨h1, h2⟩]]
  rfl
theorem dec_digs {l : B} {m : Nat} (h : Lib.decFrom 0 l = some m) : l.all isDig = true := by
  cases e : l.all isDig with
  | true => rfl
  | false => rw [dec_not l 0 e] at h; cases h
theorem num_val {w : B} {M : Nat} (h : ¬ (digs w = [] ∨ ((digs w).head? = some 48 ∧ (1 < (digs w).length ∨ neg w = true)))) (hd : Lib.decFrom 0 (digs w) = some M) : num w = some (if neg w then -(M : Int) else (M : Int)) := by
  rw [num_parts, if_neg h, hd]; rfl

theorem neg_iff (s : ByteArray) (h : 0 < s.size) : neg (bs s) = decide (s[0] = 45) := by
  have hh : (bs s).head? = some s[0] := by
    rw [List.head?_eq_getElem?, List.getElem?_eq_getElem (by rw [bs_len]; exact h)]; rfl
  unfold neg
  rw [hh]
  by_cases e : s[0] = 45
  · rw [e]; rfl
  · rw [decide_eq_false e, beq_eq_false_iff_ne]
    exact fun h' => e (Option.some.inj h')

theorem val_int {k : IntKind} {a b : Int} (h : a = b) : Value.int k a = .int k b := by rw [h]
theorem sat_min (M : Nat) : Sat (if false = true then -(M : Int) else (M : Int)) (min 2097152 (M : Int)) := by
  show Sat (M : Int) _
  unfold Sat
  by_cases h : M ≤ 2097152
  · left; omega
  · right; left; omega
theorem sat_min_neg (M : Nat) : Sat (if true = true then -(M : Int) else (M : Int)) (-min 2097152 (M : Int)) := by
  show Sat (-(M : Int)) _
  unfold Sat
  by_cases h : M ≤ 2097152
  · left; omega
  · right; right; omega

theorem ext_tail (s : ByteArray) : bs (s.extract 1 s.size) = (bs s).tail := by
  unfold bs
  rw [ByteArray.data_extract, Array.toList_extract]
  rw [List.extract_eq_take_drop, List.drop_one]
  exact List.take_of_length_le (by rw [List.length_tail]; exact Nat.le_refl _)

set_option maxHeartbeats 1000000 in
theorem c_value (s : ByteArray) (w : World) (hs : s.size ≤ 30000) : Calls Tryd.prog 57 #[.string s] w (NumOut s w) := by
  go_enter Tryd.func57, Tryd.ntmps57
  by_cases hs0 : s.size = 0
  · have tN : s.toList = [] := by rw [ByteArray.toList_eq]; exact List.length_eq_zero_iff.1 hs0
    have tE : s.toList.isEmpty = true := by rw [tN]; rfl
    have hn := Lib.hid (show num (bs s) = none by rw [show bs s = [] from List.length_eq_zero_iff.1 hs0]; rfl)
    go_wp2
    go_ret2
    exact NumOut.no hn.out
  have hsp : 0 < s.size := by omega
  have hni := neg_iff s hsp
  rcases hsg : ((s[0].toNat : Int) == 45) with _ | _
  · have hng := Lib.hid (show neg (bs s) = false by rw [hni]; exact decide_eq_false fun e => by rw [e] at hsg; exact absurd hsg (by decide))
    have hbD := Lib.hid (show bs s = digs (bs s) by unfold digs; rw [hng.out]; rfl)
    clear hni

    by_cases h0 : s.size = 0
    · have tN : s.toList = [] := by rw [ByteArray.toList_eq]; exact List.length_eq_zero_iff.1 h0
      have tE : s.toList.isEmpty = true := by rw [tN]; rfl
      go_wp2
      go_ret2
      exact NumOut.no (num_bad (.inl (by rw [← hbD.out]; exact List.length_eq_zero_iff.1 h0)))
    · have tN : ¬ s.toList = [] := by rw [ByteArray.toList_eq]; exact fun h => h0 (List.length_eq_zero_iff.2 h)
      have tE : s.toList.isEmpty = false := by
        cases e : s.toList.isEmpty with
        | false => rfl
        | true => exact absurd (List.isEmpty_iff.1 e) tN
      have hz0 : 0 < s.size := by omega
      have hhd := Lib.hid (show (digs (bs s)).head? = some s[0] by
        rw [← hbD.out, List.head?_eq_getElem?, List.getElem?_eq_getElem (by rw [bs_len]; exact hz0)]; rfl)
      have hsz := Lib.hid (show (digs (bs s)).length = s.size by rw [← hbD.out, bs_len])
      by_cases hbad : s[0] = 48 ∧ bs s ≠ [48]
      · have hn := Lib.hid (show num (bs s) = none from num_bad (bad_head hhd.out hbad.1 hbad.2))
        have t0 : ((s[0].toNat : Int) == 48) = true := by rw [hbad.1]; rfl
        have t1 : (s.toList == [48]) = false := by
          rw [ByteArray.toList_eq, beq_eq_false_iff_ne]; exact hbad.2
        clear hbad
        go_wp2
        go_ret2
        exact NumOut.no hn.out
      · have hgood := Lib.hid (good_head (ng := neg (bs s)) hhd.out (by rw [hsz.out]; omega) rfl hbad)
        have hcase : ((s[0].toNat : Int) == 48) = false ∨ (((s[0].toNat : Int) == 48) = true ∧ (s.toList == [48]) = true) := by
          rcases hb : ((s[0].toNat : Int) == 48) with _ | _
          · exact .inl rfl
          · right
            refine ⟨rfl, ?_⟩
            have h48 : s[0] = 48 := byte48' hb
            have : bs s = [48] := Decidable.byContradiction fun h => hbad ⟨h48, h⟩
            rw [ByteArray.toList_eq, beq_iff_eq]; exact this
        clear hbad
        rcases hcase with t0 | ⟨t0, t1⟩
        all_goals
          go_wp2
          go_loop [5, 6] (fun n i => ∃ (k M : Nat), k ≤ s.size ∧ i = .int .i64 (k : Nat) ∧ n = .int .i64 (min 2097152 (M : Int)) ∧ DecUp s k M) (fun _ i => s.size - (intOf i).toNat)
          case atStart => exact ⟨0, 0, Nat.zero_le _, rfl, rfl, ⟨by simp [Lib.decFrom]⟩⟩
          case round =>
            obtain ⟨k, M, hk, rfl, rfl, hup⟩ := hrel
            by_cases hlt : k < s.size
            · have hkl : k < (bs s).length := by rw [bs_len]; exact hlt
              have hkd := Lib.hid (show (bs s)[k].toNat = s[k].toNat from rfl)
              by_cases h1 : (s[k].toNat : Int) < 48
              · go_wp2
                go_ret2
                exact NumOut.no (num_nodig (by rw [← hbD.out]; exact dig_hit hkl (.inl (by have := hkd.out; omega))))
              · by_cases h2 : (57 : Int) < s[k].toNat
                · go_wp2
                  go_ret2
                  exact NumOut.no (num_nodig (by rw [← hbD.out]; exact dig_hit hkl (.inr (by have := hkd.out; omega))))
                · have hnx := Lib.hid (hup.next hkl (by have := hkd.out; omega) (by have := hkd.out; omega))
                  obtain ⟨d, hd⟩ : ∃ d : Nat, s[k].toNat = 48 + d := ⟨s[k].toNat - 48, by omega⟩
                  have hd9 : d ≤ 9 := by omega
                  have hdd := Lib.hid (show (bs s)[k].toNat - 48 = d by have := hkd.out; omega)
                  obtain ⟨N, hN⟩ : ∃ N : Int, N = min 2097152 (M : Int) := ⟨_, rfl⟩
                  have hN0 : 0 ≤ N ∧ N ≤ 2097152 := by omega
                  have hNm := Lib.hid (show min 2097152 (10 * N + (d : Int)) = min 2097152 ((M * 10 + d : Nat) : Int) by omega)
                  rw [← hN]
                  clear hN
                  go_wp2
                  go_round
                  case rel => exact ⟨k + 1, M * 10 + ((bs s)[k].toNat - 48), by omega, by go_num, val_int (by have h := hNm.out; rw [hdd.out]; omega), hnx.out⟩
                  case measure => simp [intOf]; omega
            · have hall : (digs (bs s)).all isDig = true := by
                rw [← hbD.out]
                exact dec_digs (by rw [← hup.dec, List.take_of_length_le (by rw [bs_len]; omega)])
              have hnum := Lib.hid (num_val hgood.out (show Lib.decFrom 0 (digs (bs s)) = some M by rw [← hbD.out, ← hup.dec, List.take_of_length_le (by rw [bs_len]; omega)]))
              clear hall
              rw [hng.out] at hnum
              go_wp2
              go_ret2
              exact NumOut.yes hnum.out (by first | exact sat_min M | exact sat_min_neg M) (Ext.refl _)

  · have hng := Lib.hid (show neg (bs s) = true by
      rw [hni]
      refine decide_eq_true (UInt8.toNat_inj.1 ?_)
      show s[0].toNat = 45
      rw [beq_iff_eq] at hsg; omega)
    clear hni
    obtain ⟨D, hD⟩ : ∃ D, D = s.extract 1 s.size := ⟨_, rfl⟩
    have hbD := Lib.hid (show bs D = digs (bs s) by rw [hD]; unfold digs; rw [hng.out]; exact ext_tail s)
    have hDs : D.size + 1 = s.size := by
      rw [← bs_len, hbD.out]; unfold digs; rw [hng.out]
      show (bs s).tail.length + 1 = _
      rw [List.length_tail, bs_len]; omega
    have hext : s.extract 1 s.size = D := hD.symm
    clear hD

    by_cases h0 : D.size = 0
    · have tN : D.toList = [] := by rw [ByteArray.toList_eq]; exact List.length_eq_zero_iff.1 h0
      have tE : D.toList.isEmpty = true := by rw [tN]; rfl
      go_wp2
      go_ret2
      exact NumOut.no (num_bad (.inl (by rw [← hbD.out]; exact List.length_eq_zero_iff.1 h0)))
    · have tN : ¬ D.toList = [] := by rw [ByteArray.toList_eq]; exact fun h => h0 (List.length_eq_zero_iff.2 h)
      have tE : D.toList.isEmpty = false := by
        cases e : D.toList.isEmpty with
        | false => rfl
        | true => exact absurd (List.isEmpty_iff.1 e) tN
      have hz0 : 0 < D.size := by omega
      have hhd := Lib.hid (show (digs (bs s)).head? = some D[0] by
        rw [← hbD.out, List.head?_eq_getElem?, List.getElem?_eq_getElem (by rw [bs_len]; exact hz0)]; rfl)
      have hsz := Lib.hid (show (digs (bs s)).length = D.size by rw [← hbD.out, bs_len])
      by_cases hbad : D[0] = 48 ∧ bs s ≠ [48]
      · have hn := Lib.hid (show num (bs s) = none from num_bad (bad_head hhd.out hbad.1 hbad.2))
        have t0 : ((D[0].toNat : Int) == 48) = true := by rw [hbad.1]; rfl
        have t1 : (s.toList == [48]) = false := by
          rw [ByteArray.toList_eq, beq_eq_false_iff_ne]; exact hbad.2
        clear hbad
        go_wp2
        go_ret2
        exact NumOut.no hn.out
      · have hgood := Lib.hid (good_head (ng := neg (bs s)) hhd.out (by rw [hsz.out]; omega) rfl hbad)
        have hcase : ((D[0].toNat : Int) == 48) = false ∨ (((D[0].toNat : Int) == 48) = true ∧ (s.toList == [48]) = true) := by
          rcases hb : ((D[0].toNat : Int) == 48) with _ | _
          · exact .inl rfl
          · right
            refine ⟨rfl, ?_⟩
            have h48 : D[0] = 48 := byte48' hb
            have : bs s = [48] := Decidable.byContradiction fun h => hbad ⟨h48, h⟩
            rw [ByteArray.toList_eq, beq_iff_eq]; exact this
        clear hbad
        rcases hcase with t0 | ⟨t0, t1⟩
        all_goals
          go_wp2
          go_loop [5, 6] (fun n i => ∃ (k M : Nat), k ≤ D.size ∧ i = .int .i64 (k : Nat) ∧ n = .int .i64 (min 2097152 (M : Int)) ∧ DecUp D k M) (fun _ i => D.size - (intOf i).toNat)
          case atStart => exact ⟨0, 0, Nat.zero_le _, rfl, rfl, ⟨by simp [Lib.decFrom]⟩⟩
          case round =>
            obtain ⟨k, M, hk, rfl, rfl, hup⟩ := hrel
            by_cases hlt : k < D.size
            · have hkl : k < (bs D).length := by rw [bs_len]; exact hlt
              have hkd := Lib.hid (show (bs D)[k].toNat = D[k].toNat from rfl)
              by_cases h1 : (D[k].toNat : Int) < 48
              · go_wp2
                go_ret2
                exact NumOut.no (num_nodig (by rw [← hbD.out]; exact dig_hit hkl (.inl (by have := hkd.out; omega))))
              · by_cases h2 : (57 : Int) < D[k].toNat
                · go_wp2
                  go_ret2
                  exact NumOut.no (num_nodig (by rw [← hbD.out]; exact dig_hit hkl (.inr (by have := hkd.out; omega))))
                · have hnx := Lib.hid (hup.next hkl (by have := hkd.out; omega) (by have := hkd.out; omega))
                  obtain ⟨d, hd⟩ : ∃ d : Nat, D[k].toNat = 48 + d := ⟨D[k].toNat - 48, by omega⟩
                  have hd9 : d ≤ 9 := by omega
                  have hdd := Lib.hid (show (bs D)[k].toNat - 48 = d by have := hkd.out; omega)
                  obtain ⟨N, hN⟩ : ∃ N : Int, N = min 2097152 (M : Int) := ⟨_, rfl⟩
                  have hN0 : 0 ≤ N ∧ N ≤ 2097152 := by omega
                  have hNm := Lib.hid (show min 2097152 (10 * N + (d : Int)) = min 2097152 ((M * 10 + d : Nat) : Int) by omega)
                  rw [← hN]
                  clear hN
                  go_wp2
                  go_round
                  case rel => exact ⟨k + 1, M * 10 + ((bs D)[k].toNat - 48), by omega, by go_num, val_int (by have h := hNm.out; rw [hdd.out]; omega), hnx.out⟩
                  case measure => simp [intOf]; omega
            · have hall : (digs (bs s)).all isDig = true := by
                rw [← hbD.out]
                exact dec_digs (by rw [← hup.dec, List.take_of_length_le (by rw [bs_len]; omega)])
              have hnum := Lib.hid (num_val hgood.out (show Lib.decFrom 0 (digs (bs s)) = some M by rw [← hbD.out, ← hup.dec, List.take_of_length_le (by rw [bs_len]; omega)]))
              clear hall
              rw [hng.out] at hnum
              go_wp2
              go_ret2
              exact NumOut.yes hnum.out (by first | exact sat_min M | exact sat_min_neg M) (Ext.refl _)

end Go.Proofs.YtmbjlbmfagfneaaDoor
