/- Check of the reference. -/
import Derived.Test.YtphaigncbenmmaaGreatDoorChk
import Derived.Deep.RegionLaw
namespace Go.Proofs.YtphaigncbenmmaaGreatDoor
open Go Go.RowKit

def digB (c : UInt8) : Bool := decide (48 ≤ c.toNat ∧ c.toNat ≤ 57)
set_option maxHeartbeats 1000000 in
theorem c_capital (c : UInt8) (w : World) : Calls Tryz.prog 43 #[.int .u8 c.toNat] w fun e w' => e = .returned (.bool (cap c)) ∧ w' = w := by
  have hd := Lib.hid (show cap c = decide (65 ≤ c.toNat ∧ c.toNat ≤ 90) from rfl)
  go_enter Tryz.func43, Tryz.ntmps43
  by_cases h1 : (65 : Int) ≤ c.toNat
  · by_cases h2 : (c.toNat : Int) ≤ 90
    all_goals
      go_wp2
      go_ret
      exact ⟨ret_bool (by rw [hd.out]; simp; omega), rfl⟩
  · go_wp2
    go_ret
    exact ⟨ret_bool (by rw [hd.out]; simp; omega), rfl⟩
set_option maxHeartbeats 1000000 in
theorem c_digit (c : UInt8) (w : World) : Calls Tryz.prog 44 #[.int .u8 c.toNat] w fun e w' => e = .returned (.bool (digB c)) ∧ w' = w := by
  have hd := Lib.hid (show digB c = decide (48 ≤ c.toNat ∧ c.toNat ≤ 57) from rfl)
  go_enter Tryz.func44, Tryz.ntmps44
  by_cases h1 : (48 : Int) ≤ c.toNat
  · by_cases h2 : (c.toNat : Int) ≤ 57
    all_goals
      go_wp2
      go_ret
      exact ⟨ret_bool (by rw [hd.out]; simp; omega), rfl⟩
  · go_wp2
    go_ret
    exact ⟨ret_bool (by rw [hd.out]; simp; omega), rfl⟩
set_option maxHeartbeats 1000000 in
theorem c_in (n lo hi : Int) (w : World) : Calls Tryz.prog 25 #[.int .i64 n, .int .i64 lo, .int .i64 hi] w fun e w' => e = .returned (.bool (inR lo hi n)) ∧ w' = w := by
  have hd := Lib.hid (show inR lo hi n = decide (lo ≤ n ∧ n ≤ hi) from rfl)
  go_enter Tryz.func25, Tryz.ntmps25
  by_cases h1 : lo ≤ n
  · go_wp2
    go_ret
    exact ⟨ret_bool (by rw [hd.out]; simp; omega), rfl⟩
  · go_wp2
    go_ret
    exact ⟨ret_bool (by rw [hd.out]; simp; omega), rfl⟩

theorem oth_dig (c : UInt8) : oth c = (decide (97 ≤ c.toNat ∧ c.toNat ≤ 122) || digB c) := rfl

set_option maxHeartbeats 2000000 in
theorem c_rid (s : ByteArray) (w : World) (hs : s.size ≤ 9223372036854775807) : Calls Tryz.prog 24 #[.string s] w fun e w' => e = .returned (.bool (idOk (bs s))) ∧ w' = w := by
  go_enter Tryz.func24, Tryz.ntmps24
  by_cases h0 : s.size = 0
  · have tN : s.toList = [] := by rw [ByteArray.toList_eq]; exact List.length_eq_zero_iff.1 h0
    have tE : s.toList.isEmpty = true := by rw [tN]; rfl
    have hid := Lib.hid (show idOk (bs s) = false by
      have : bs s = [] := List.length_eq_zero_iff.1 h0
      rw [this]; rfl)
    go_wp2
    go_ret
    exact ⟨ret_bool hid.out.symm, rfl⟩
  · have tN : ¬ s.toList = [] := by rw [ByteArray.toList_eq]; exact fun h => h0 (List.length_eq_zero_iff.2 h)
    have tE : s.toList.isEmpty = false := by
      cases e : s.toList.isEmpty with
      | false => rfl
      | true => exact absurd (List.isEmpty_iff.1 e) tN
    by_cases h8 : 8 < s.size
    · have hid := Lib.hid (show idOk (bs s) = false by
        unfold idOk
        rw [bs_len]
        simp; omega)
      go_wp2
      go_ret
      exact ⟨ret_bool hid.out.symm, rfl⟩
    · have hz : 0 < s.size := by omega
      go_wp2_with fail
      refine (c_capital s[0] _).mono ?_
      rintro e w1 ⟨rfl, rfl⟩
      rcases hc : cap s[0] with _ | _
      · have hid := Lib.hid (show idOk (bs s) = false from IdUp.hit hz hc (.inl rfl))
        go_wp2
        go_ret
        exact ⟨ret_bool hid.out.symm, rfl⟩
      · have hu1 := Lib.hid ((IdUp.zero s).next hz (.inl hc))
        replace hc := Lib.hid hc
        go_wp2
        go_loop [3] (fun i => ∃ k : Nat, 1 ≤ k ∧ k ≤ s.size ∧ i = .int .i64 k ∧ IdUp s k) (fun i => s.size - (intOf i).toNat)
        case atStart => exact ⟨1, Nat.le_refl _, by omega, rfl, hu1.out⟩
        case round =>
          obtain ⟨k, hk1, hk, rfl, hup⟩ := hrel
          by_cases hlt : k < s.size
          · have hyes := Lib.hid (fun h => hup.next hlt h)
            have hno := Lib.hid (fun h1 h2 => IdUp.hit (s := s) hlt h1 (.inr h2))
            have hod := Lib.hid (oth_dig s[k])
            replace hup := Lib.hid hup
            go_wp2_with fail
            refine (c_capital s[k] _).mono ?_
            rintro e w1 ⟨rfl, rfl⟩
            rcases hck : cap s[k] with _ | _
            · go_wp2_with fail
              refine (c_digit s[k] _).mono ?_
              rintro e w1 ⟨rfl, rfl⟩
              rcases hdk : digB s[k] with _ | _
              · by_cases e1 : (97 : Int) ≤ s[k].toNat
                · by_cases e2 : (s[k].toNat : Int) ≤ 122
                  · have hup2 := Lib.hid (hyes.out (.inr ⟨by omega, by rw [hod.out]; simp; left; omega⟩))
                    go_wp2
                    go_round
                    case rel => exact ⟨k + 1, by omega, by omega, by go_num, hup2.out⟩
                    case measure => simp [intOf]; omega
                  · have hid := Lib.hid (hno.out hck (by rw [hod.out, hdk]; simp; omega))
                    have d2 : decide ((s[k].toNat : Int) ≤ 122) = false := decide_eq_false e2
                    go_wp2
                    go_ret
                    exact ⟨ret_bool hid.out.symm, rfl⟩
                · have hid := Lib.hid (hno.out hck (by rw [hod.out, hdk]; simp; omega))
                  go_wp2
                  go_ret
                  exact ⟨ret_bool hid.out.symm, rfl⟩
              · have hup2 := Lib.hid (hyes.out (.inr ⟨by omega, by rw [hod.out, hdk]; simp⟩))
                go_wp2
                go_round
                case rel => exact ⟨k + 1, by omega, by omega, by go_num, hup2.out⟩
                case measure => simp [intOf]; omega
            · have hup2 := Lib.hid (hyes.out (.inl hck))
              go_wp2
              go_round
              case rel => exact ⟨k + 1, by omega, by omega, by go_num, hup2.out⟩
              case measure => simp [intOf]; omega
          · have hid := Lib.hid (hup.done hlt)
            go_wp2
            go_ret
            exact ⟨ret_bool (by rw [hid.out]; simp; omega), rfl⟩

theorem fit_in {r : Ro} {f : Fl} (_hl : 1 ≤ r.len ∧ r.len ≤ 1048576) (_hw : 1 ≤ r.wid ∧ r.wid ≤ 1048576) : fitOk r f = (inR 0 r.len f.x && inR 0 r.wid f.y && inR 1 (r.len - f.x) f.w && inR 1 (r.wid - f.y) f.h) := by
  unfold fitOk inR
  rw [Bool.eq_iff_iff]
  simp; omega

set_option maxHeartbeats 2000000 in
theorem c_rfits (r : Ro) (f : Fl) (fv : Value) (w : World) (hl : 1 ≤ r.len ∧ r.len ≤ 1048576) (hw : 1 ≤ r.wid ∧ r.wid ≤ 1048576) (h64 : FlI f) :
    Calls Tryz.prog 26 #[.agg (flC f).toArray, roV r fv] w fun e w' => e = .returned (.bool (fitOk r f)) ∧ Ext w w' := by
  have hfi := Lib.hid (fit_in (f := f) hl hw)
  obtain ⟨⟨x1, x2⟩, ⟨y1, y2⟩, ⟨u1, u2⟩, v1, v2⟩ := h64
  unfold roV
  show Calls Tryz.prog 26 #[.agg #[.int .i64 f.x, .int .i64 f.y, .int .i64 f.w, .int .i64 f.h], .agg #[.string (ofB r.id), .int .i64 r.wid, .int .i64 r.len, .int .i64 r.tl, .int .i64 r.ta, .int .i64 r.tb, fv]] w _
  go_enter Tryz.func26, Tryz.ntmps26
  have hE := Lib.hid (((Ext.refl w).alloc (.cells #[.int .i64 f.x, .int .i64 f.y, .int .i64 f.w, .int .i64 f.h] 47)).alloc (.cells #[.string (ofB r.id), .int .i64 r.wid, .int .i64 r.len, .int .i64 r.tl, .int .i64 r.ta, .int .i64 r.tb, fv] 26))
  go_wp2_with fail
  refine (c_in f.x 0 r.len _).mono ?_
  rintro e w1 ⟨rfl, rfl⟩
  rcases h1 : inR 0 r.len f.x with _ | _
  · go_wp2
    go_ret
    exact ⟨ret_bool (by rw [hfi.out, h1]; simp), hE.out⟩
  · have hx0 : 0 ≤ f.x ∧ f.x ≤ r.len := of_decide_eq_true h1
    go_wp2_with fail
    refine (c_in f.y 0 r.wid _).mono ?_
    rintro e w1 ⟨rfl, rfl⟩
    rcases h2 : inR 0 r.wid f.y with _ | _
    · go_wp2
      go_ret
      exact ⟨ret_bool (by rw [hfi.out, h2]; simp), hE.out⟩
    · have hy0 : 0 ≤ f.y ∧ f.y ≤ r.wid := of_decide_eq_true h2
      go_wp2_with fail
      refine (c_in f.w 1 (r.len - f.x) _).mono ?_
      rintro e w1 ⟨rfl, rfl⟩
      rcases h3 : inR 1 (r.len - f.x) f.w with _ | _
      · go_wp2
        go_ret
        exact ⟨ret_bool (by rw [hfi.out, h3]; simp), hE.out⟩
      · go_wp2_with fail
        refine (c_in f.h 1 (r.wid - f.y) _).mono ?_
        rintro e w1 ⟨rfl, rfl⟩
        go_wp2
        go_ret
        exact ⟨ret_bool (by rw [hfi.out, h1, h2, h3]; simp), hE.out⟩

theorem meas_in (r : Ro) : measOk r = (inR 1 1048576 r.len && inR 1 1048576 r.wid && inR (-1000) 1000 r.tl && inR (-1000) 1000 r.ta && inR (-1000) 1000 r.tb) := rfl

set_option maxHeartbeats 4000000 in
theorem c_rcheck (r : Ro) (fv : Value) (w : World) (h : RdF w fv r.fl) (hs : r.id.length ≤ 30000) :
    Calls Tryz.prog 11 #[roV r fv] w fun e w' => e = .returned (.int .i64 (check r)) ∧ Ext w w' := by
  obtain ⟨A, c, rfl, hcap, hmax, h64, hc⟩ := h
  unfold maxLen at hmax
  replace hc := Lib.hid hc
  unfold roV
  go_enter Tryz.func11, Tryz.ntmps11
  go_wp2_with fail
  refine (c_rid _ _ (by rw [ofB_size]; omega)).mono ?_
  rintro e w1 ⟨rfl, rfl⟩
  rw [bs_ofB]
  have hE := Lib.hid ((Ext.refl w).alloc (.cells #[.string (ofB r.id), .int .i64 r.wid, .int .i64 r.len, .int .i64 r.tl, .int .i64 r.ta, .int .i64 r.tb, .slice A r.fl.length c] 26))
  cases hid : idOk r.id with
  | false =>
    have hck := Lib.hid (check_id hid)
    go_wp2
    go_ret
    exact ⟨by rw [hck.out]; rfl, hE.out⟩
  | true =>
    replace hid := Lib.hid hid
    have hmi := Lib.hid (meas_in r)
    have bad := Lib.hid (fun h => check_meas hid.out h)
    go_wp2_with fail
    refine (c_in r.len 1 1048576 _).mono ?_
    rintro e w1 ⟨rfl, rfl⟩
    rcases m1 : inR 1 1048576 r.len with _ | _
    · have hck := Lib.hid (bad.out (by rw [hmi.out, m1]; simp))
      go_wp2
      go_ret
      exact ⟨by rw [hck.out]; rfl, hE.out⟩
    have hl : 1 ≤ r.len ∧ r.len ≤ 1048576 := of_decide_eq_true m1
    replace m1 := Lib.hid m1
    go_wp2_with fail
    refine (c_in r.wid 1 1048576 _).mono ?_
    rintro e w1 ⟨rfl, rfl⟩
    rcases m2 : inR 1 1048576 r.wid with _ | _
    · have hck := Lib.hid (bad.out (by rw [hmi.out, m2]; simp))
      go_wp2
      go_ret
      exact ⟨by rw [hck.out]; rfl, hE.out⟩
    have hw : 1 ≤ r.wid ∧ r.wid ≤ 1048576 := of_decide_eq_true m2
    replace m2 := Lib.hid m2
    go_wp2_with fail
    refine (c_in r.tl (-1000) 1000 _).mono ?_
    rintro e w1 ⟨rfl, rfl⟩
    rcases m3 : inR (-1000) 1000 r.tl with _ | _
    · have hck := Lib.hid (bad.out (by rw [hmi.out, m3]; simp))
      go_wp2
      go_ret
      exact ⟨by rw [hck.out]; rfl, hE.out⟩
    replace m3 := Lib.hid m3
    go_wp2_with fail
    refine (c_in r.ta (-1000) 1000 _).mono ?_
    rintro e w1 ⟨rfl, rfl⟩
    rcases m4 : inR (-1000) 1000 r.ta with _ | _
    · have hck := Lib.hid (bad.out (by rw [hmi.out, m4]; simp))
      go_wp2
      go_ret
      exact ⟨by rw [hck.out]; rfl, hE.out⟩
    replace m4 := Lib.hid m4
    go_wp2_with fail
    refine (c_in r.tb (-1000) 1000 _).mono ?_
    rintro e w1 ⟨rfl, rfl⟩
    rcases m5 : inR (-1000) 1000 r.tb with _ | _
    · have hck := Lib.hid (bad.out (by rw [hmi.out, m5]; simp))
      go_wp2
      go_ret
      exact ⟨by rw [hck.out]; rfl, hE.out⟩
    have hme := Lib.hid (show measOk r = true by rw [hmi.out, m1.out, m2.out, m3.out, m4.out, m5]; rfl)
    replace m5 := Lib.hid m5
    by_cases h20 : 20 < r.fl.length
    · have hck := Lib.hid (check_many hid.out hme.out h20)
      go_wp2
      go_ret
      exact ⟨by rw [hck.out]; rfl, hE.out⟩
    obtain ⟨w1, hw1⟩ : ∃ w1, w1 = w.alloc (.cells #[.string (ofB r.id), .int .i64 r.wid, .int .i64 r.len, .int .i64 r.tl, .int .i64 r.ta, .int .i64 r.tb, .slice A r.fl.length c] 26) := ⟨_, rfl⟩
    have hb := Lib.hid (show Blk w1 w.heap.size 26 #[.string (ofB r.id), .int .i64 r.wid, .int .i64 r.len, .int .i64 r.tl, .int .i64 r.ta, .int .i64 r.tb, .slice A r.fl.length c] from hw1 ▸ Blk.new w 26 _)
    rw [← hw1] at hE
    go_wp2
    rw [← hw1]
    clear hw1
    go_loopw [3] (fun i wr => ∃ k : Nat, k ≤ r.fl.length ∧ i = .int .i64 k ∧ FitUp r k ∧ Ext w1 wr) (fun i _ => r.fl.length - (intOf i).toNat)
    case atStart => exact ⟨0, Nat.zero_le _, rfl, FitUp.zero r, Ext.refl _⟩
    case round =>
      obtain ⟨j, hj, rfl, hfu, hX⟩ := hrel
      obtain ⟨q0, q1, q2, q3, q4, q5, q6⟩ := (hb.out.ext hX).parts7
      have hlt := (hb.out.ext hX).lt
      by_cases hjl : j < r.fl.length
      · obtain ⟨b, o, rfl, c0, c1, c2, c3⟩ := hc.out j hjl
        replace c0 := hX.cell (hE.out.cell c0)
        replace c1 := hX.cell (hE.out.cell c1)
        replace c2 := hX.cell (hE.out.cell c2)
        replace c3 := hX.cell (hE.out.cell c3)
        have h64j := Lib.hid (h64 _ (List.getElem_mem hjl))
        have hno := Lib.hid (fun h => check_fit hid.out hme.out h20 hjl h)
        have hyes := Lib.hid (fun h => hfu.next hjl h)
        obtain ⟨f, hf⟩ : ∃ f, f = r.fl[j] := ⟨_, rfl⟩
        rw [← hf] at c0 c1 c2 c3 h64j hno hyes
        clear hf
        have hEX := Lib.hid (hE.out.trans hX)
        replace hX := Lib.hid hX
        replace hfu := Lib.hid hfu
        have hji : (j : Int) < r.fl.length := by omega
        have hcon := Lib.hid (c_rfits r f (.slice (some ⟨b, o, none⟩) r.fl.length c) wr.drew hl hw h64j.out)
        unfold roV flC at hcon
        go_wp2_with fail
        go_region_law (go_simp; go_at_call 26; (with_reducible refine hcon.out.mono ?_); rintro e w2 ⟨rfl, hx2⟩; replace hx2 := Lib.hid hx2)
        all_goals
          rcases hfo : fitOk r f with _ | _
          · have hck := Lib.hid (hno.out hfo)
            go_wp2
            go_ret
            exact ⟨by rw [hck.out]; rfl, hEX.out.drew.trans hx2.out⟩
          · have hfu2 := Lib.hid (hyes.out hfo)
            go_wp2
            go_roundw
            case rel => exact ⟨j + 1, by omega, by go_num, hfu2.out, hX.out.drew.trans hx2.out⟩
            case measure => simp [intOf]; omega
      · have hck := Lib.hid (hfu.done hjl hid.out hme.out h20)
        replace hX := Lib.hid hX
        go_wp2
        go_ret
        exact ⟨by rw [hck.out]; rfl, hE.out.trans hX.out⟩

end Go.Proofs.YtphaigncbenmmaaGreatDoor
