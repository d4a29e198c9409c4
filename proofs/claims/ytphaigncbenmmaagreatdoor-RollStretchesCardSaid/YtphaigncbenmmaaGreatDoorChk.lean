/- Check of the program. -/
import Derived.Test.YtphaigncbenmmaaGreatDoorLeaf
namespace Go.Proofs.YtphaigncbenmmaaGreatDoor
open Go Go.RowKit

def toneOk (r : Ro) : Bool := [r.tl, r.ta, r.tb].all (inR (-1000) 1000)
theorem meas_no {r : Ro} (h : r.len < 1 ∨ 1048576 < r.len ∨ r.wid < 1 ∨ 1048576 < r.wid) : measOk r = false := by
  unfold measOk inR
  rcases h with h | h | h | h <;> simp <;> omega
theorem meas_tone {r : Ro} (h : ¬ (r.len < 1 ∨ 1048576 < r.len ∨ r.wid < 1 ∨ 1048576 < r.wid)) : measOk r = toneOk r := by
  unfold measOk toneOk
  have h1 : inR 1 1048576 r.len = true := by simp [inR]; omega
  have h2 : inR 1 1048576 r.wid = true := by simp [inR]; omega
  rw [h1, h2]; simp [Bool.and_assoc]
theorem check_id {r : Ro} (h : idOk r.id = false) : check r = 1 := by unfold check; simp [h]
theorem check_meas {r : Ro} (h : idOk r.id = true) (h2 : measOk r = false) : check r = 3 := by unfold check; simp [h, h2]
theorem check_many {r : Ro} (h : idOk r.id = true) (h2 : measOk r = true) (h3 : 20 < r.fl.length) : check r = 5 := by unfold check; simp [h, h2, h3]
theorem check_fit {r : Ro} (h : idOk r.id = true) (h2 : measOk r = true) (h3 : ¬ 20 < r.fl.length) {k : Nat} (hk : k < r.fl.length) (h4 : fitOk r r.fl[k] = false) : check r = 3 := by
  unfold check
  rw [if_pos h, if_pos h2, if_neg h3, if_neg]
  intro h5
  rw [List.all_eq_true.1 h5 _ (List.getElem_mem hk)] at h4
  cases h4
theorem fit_def (r : Ro) (f : Fl) : fitOk r f = decide (0 ≤ f.x ∧ 1 ≤ f.w ∧ f.w ≤ r.len - f.x ∧ 0 ≤ f.y ∧ 1 ≤ f.h ∧ f.h ≤ r.wid - f.y) := rfl

/-- the first k flaws fit -/
structure FitUp (r : Ro) (k : Nat) : Prop where
  all : ∀ j (h : j < r.fl.length), j < k → fitOk r r.fl[j] = true
theorem FitUp.zero (r : Ro) : FitUp r 0 := ⟨fun j _ h => absurd h (by omega)⟩
theorem FitUp.next {r : Ro} {k : Nat} (h : FitUp r k) (hk : k < r.fl.length) (h1 : fitOk r r.fl[k] = true) : FitUp r (k + 1) := ⟨fun j hj hjk => by
  rcases Nat.lt_or_ge j k with h2 | h2
  · exact h.all j hj h2
  · obtain rfl : j = k := by omega
    exact h1⟩
theorem FitUp.done {r : Ro} {k : Nat} (h : FitUp r k) (hk : ¬ k < r.fl.length) (h1 : idOk r.id = true) (h2 : measOk r = true) (h3 : ¬ 20 < r.fl.length) : check r = 0 := by
  unfold check
  rw [if_pos h1, if_pos h2, if_neg h3, if_pos]
  rw [List.all_eq_true]
  intro f hf
  obtain ⟨j, hj, rfl⟩ := List.getElem_of_mem hf
  exact h.all j hj (by omega)

/-- the first k of three numbers are a tone's -/
structure ToneUp (r : Ro) (k : Nat) : Prop where
  all : ([r.tl, r.ta, r.tb].take k).all (inR (-1000) 1000) = true
theorem ToneUp.next {r : Ro} {k : Nat} (h : ToneUp r k) (hk : k < [r.tl, r.ta, r.tb].length) (h1 : ¬ [r.tl, r.ta, r.tb][k] < -1000) (h2 : ¬ 1000 < [r.tl, r.ta, r.tb][k]) : ToneUp r (k + 1) := ⟨by
  rw [take_snoc _ k hk, List.all_append, h.all]
  simp [inR]; omega⟩
theorem ToneUp.hit {r : Ro} {k : Nat} (hk : k < [r.tl, r.ta, r.tb].length) (h1 : [r.tl, r.ta, r.tb][k] < -1000 ∨ 1000 < [r.tl, r.ta, r.tb][k]) : toneOk r = false := by
  cases e : toneOk r with
  | false => rfl
  | true =>
    have := of_decide_eq_true (List.all_eq_true.1 e _ (List.getElem_mem hk))
    omega
theorem ToneUp.done {r : Ro} {k : Nat} (h : ToneUp r k) (hk : ¬ k < 3) : toneOk r = true := by
  have := h.all
  rw [List.take_of_length_le (by simp; omega)] at this
  exact this

set_option maxHeartbeats 1000000 in
theorem c_check (r : Ro) (fv : Value) (w : World) (h : RdF w fv r.fl) (hs : r.id.length ≤ 30000) :
    Calls Tryz.prog 10 #[roV r fv] w fun e w' => e = .returned (.int .i64 (check r)) ∧ Ext w w' := by
  obtain ⟨A, c, rfl, hcap, hmax, h64, hc⟩ := h
  unfold maxLen at hmax
  unfold roV
  go_enter Tryz.func10, Tryz.ntmps10
  go_wp2_with fail
  refine (c_isId _ _ (by rw [ofB_size]; omega)).mono ?_
  rintro e w1 ⟨rfl, rfl⟩
  rw [bs_ofB]
  cases hid : idOk r.id with
  | false =>
    have hck := Lib.hid (check_id hid)
    go_wp2
    go_ret
    exact ⟨by rw [hck.out]; rfl, (Ext.refl w).alloc _⟩
  | true =>
    replace hid := Lib.hid hid
    by_cases hm : r.len < 1 ∨ 1048576 < r.len ∨ r.wid < 1 ∨ 1048576 < r.wid
    · have hck := Lib.hid (check_meas hid.out (meas_no hm))
      by_cases m1 : r.len < 1
      · go_wp2
        go_ret
        exact ⟨by rw [hck.out]; rfl, (Ext.refl w).alloc _⟩
      by_cases m2 : 1048576 < r.len
      · go_wp2
        go_ret
        exact ⟨by rw [hck.out]; rfl, (Ext.refl w).alloc _⟩
      by_cases m3 : r.wid < 1
      · go_wp2
        go_ret
        exact ⟨by rw [hck.out]; rfl, (Ext.refl w).alloc _⟩
      have m4 : 1048576 < r.wid := by omega
      go_wp2
      go_ret
      exact ⟨by rw [hck.out]; rfl, (Ext.refl w).alloc _⟩
    · have hmt := Lib.hid (meas_tone hm)
      have m1 : ¬ r.len < 1 := by omega
      have m2 : ¬ 1048576 < r.len := by omega
      have m3 : ¬ r.wid < 1 := by omega
      have m4 : ¬ 1048576 < r.wid := by omega
      clear hm
      go_wp2
      obtain ⟨w1, hw1⟩ : ∃ w1, w1 = (w.alloc (.cells #[.string (ofB r.id), .int .i64 r.wid, .int .i64 r.len, .int .i64 r.tl, .int .i64 r.ta, .int .i64 r.tb, .slice A r.fl.length c] 26)).alloc (.cells #[.int .i64 r.tl, .int .i64 r.ta, .int .i64 r.tb] 3) := ⟨_, rfl⟩
      have hb := Lib.hid (show Blk w1 w.heap.size 26 _ from hw1 ▸ (Blk.new w 26 _).alloc _)
      have hr3 := Lib.hid (show RdI w1 (.slice (some ⟨w.heap.size + 1, 0, none⟩) 3 3) [r.tl, r.ta, r.tb] from hw1 ▸ rdI_three (Blk.at (by simp)))
      have hE := Lib.hid (show Ext w w1 from hw1 ▸ ((Ext.refl w).alloc _).alloc _)
      rw [← hw1]
      clear hw1
      have hcc : ∀ j (h : j < 3), w1.cell? ⟨w.heap.size + 1, j, none⟩ = some (.int .i64 ([r.tl, r.ta, r.tb][j]'h)) := by
        intro j hj
        obtain ⟨A', c', e, _, _, h3⟩ := hr3.out
        injection e with e1 _ _
        obtain ⟨b, o, e2, h4⟩ := h3 j hj
        rw [← e1] at e2
        injection e2 with e2
        injection e2 with e3 e4 e5
        subst e3 e4
        simpa using h4
      replace hcc := Lib.hid hcc
      clear hr3
      go_loop [40] (fun i => ∃ k : Nat, k ≤ 3 ∧ i = .int .i64 k ∧ ToneUp r k) (fun i => 3 - (intOf i).toNat)
      case atStart => exact ⟨0, Nat.zero_le _, rfl, ⟨by simp⟩⟩
      case round =>
        obtain ⟨k, hk, rfl, hup⟩ := hrel
        by_cases hlt : k < 3
        · have hl3 : k < [r.tl, r.ta, r.tb].length := hlt
          have hcell := hcc.out k hlt
          obtain ⟨t, ht⟩ : ∃ t, t = [r.tl, r.ta, r.tb][k]'hl3 := ⟨_, rfl⟩
          rw [← ht] at hcell
          replace ht := Lib.hid ht
          replace hup := Lib.hid hup
          by_cases t1 : t < -1000
          · have hck := Lib.hid (check_meas hid.out (by rw [hmt.out]; exact ToneUp.hit hl3 (.inl (by rw [← ht.out]; exact t1))))
            go_wp2
            go_ret
            exact ⟨by rw [hck.out]; rfl, hE.out⟩
          · by_cases t2 : 1000 < t
            · have hck := Lib.hid (check_meas hid.out (by rw [hmt.out]; exact ToneUp.hit hl3 (.inr (by rw [← ht.out]; exact t2))))
              go_wp2
              go_ret
              exact ⟨by rw [hck.out]; rfl, hE.out⟩
            · go_wp2
              go_round
              case rel => exact ⟨k + 1, by omega, by go_num, hup.out.next hl3 (by rw [← ht.out]; exact t1) (by rw [← ht.out]; exact t2)⟩
              case measure => simp [intOf]; omega
        · have hme := Lib.hid (hmt.out.trans (hup.done hlt))
          obtain ⟨q0, q1, q2, q3, q4, q5, q6⟩ := hb.out.parts7
          by_cases h20 : 20 < r.fl.length
          · have hck := Lib.hid (check_many hid.out hme.out h20)
            go_wp2
            go_ret
            exact ⟨by rw [hck.out]; rfl, hE.out⟩
          · go_wp2
            replace hup := Lib.hid hup
            clear hcc q0 q1 q2 q3 q4 q5 q6
            replace hc := Lib.hid hc
            go_loopw [58] (fun i wr => ∃ k : Nat, k ≤ r.fl.length ∧ i = .int .i64 k ∧ FitUp r k ∧ Ext w1 wr) (fun i _ => r.fl.length - (intOf i).toNat)
            case atStart => exact ⟨0, Nat.zero_le _, rfl, FitUp.zero r, Ext.refl _⟩
            case round =>
              obtain ⟨j, hj, rfl, hfu, hX⟩ := hrel
              by_cases hjl : j < r.fl.length
              · obtain ⟨b, o, rfl, c0, c1, c2, c3⟩ := hc.out j hjl
                replace c0 := hX.cell (hE.out.cell c0)
                replace c1 := hX.cell (hE.out.cell c1)
                replace c2 := hX.cell (hE.out.cell c2)
                replace c3 := hX.cell (hE.out.cell c3)
                have hEX := Lib.hid (hE.out.trans hX)
                obtain ⟨q0, q1, q2, q3, q4, q5, q6⟩ := hb.out.parts7
                replace q1 := hX.cell q1
                replace q2 := hX.cell q2
                have l1 := World.block_lt_of_cell? _ _ q1
                have l2 := World.block_lt_of_cell? _ _ c0
                clear q0 q3 q4 q5 q6
                have hfd := Lib.hid (fit_def r r.fl[j])
                have h64j := h64 _ (List.getElem_mem hjl)
                have hno : fitOk r r.fl[j] = false → check r = 3 := fun h => check_fit hid.out hme.out h20 hjl h
                replace hno := Lib.hid hno
                obtain ⟨f, hf⟩ : ∃ f, f = r.fl[j] := ⟨_, rfl⟩
                rw [← hf] at c0 c1 c2 c3 h64j
                replace hf := Lib.hid hf
                obtain ⟨⟨x1, x2⟩, ⟨y1, y2⟩, ⟨u1, u2⟩, v1, v2⟩ := h64j
                replace hX := Lib.hid hX
                replace hfu := Lib.hid hfu
                have no : (f.x < 0 ∨ f.w < 1 ∨ r.len - f.x < f.w ∨ f.y < 0 ∨ f.h < 1 ∨ r.wid - f.y < f.h) → check r = 3 := by
                  intro h
                  refine hno.out ?_
                  rw [hfd.out, ← hf.out]
                  simp; omega
                replace no := Lib.hid no
                clear hno
                have hlr : (j : Int) < r.fl.length := by omega
                by_cases f1 : f.x < 0
                · have hck := Lib.hid (no.out (.inl f1))
                  go_wp2
                  go_ret
                  exact ⟨by rw [hck.out]; rfl, hEX.out.alloc _⟩
                by_cases f2 : f.w < 1
                · have hck := Lib.hid (no.out (.inr (.inl f2)))
                  go_wp2
                  go_ret
                  exact ⟨by rw [hck.out]; rfl, hEX.out.alloc _⟩
                by_cases f3 : r.len - f.x < f.w
                · have hck := Lib.hid (no.out (.inr (.inr (.inl f3))))
                  go_wp2
                  go_ret
                  exact ⟨by rw [hck.out]; rfl, hEX.out.alloc _⟩
                by_cases f4 : f.y < 0
                · have hck := Lib.hid (no.out (.inr (.inr (.inr (.inl f4)))))
                  go_wp2
                  go_ret
                  exact ⟨by rw [hck.out]; rfl, hEX.out.alloc _⟩
                by_cases f5 : f.h < 1
                · have hck := Lib.hid (no.out (.inr (.inr (.inr (.inr (.inl f5))))))
                  go_wp2
                  go_ret
                  exact ⟨by rw [hck.out]; rfl, hEX.out.alloc _⟩
                by_cases f6 : r.wid - f.y < f.h
                · have hck := Lib.hid (no.out (.inr (.inr (.inr (.inr (.inr f6))))))
                  go_wp2
                  go_ret
                  exact ⟨by rw [hck.out]; rfl, hEX.out.alloc _⟩
                go_wp2
                go_roundw
                case rel => exact ⟨j + 1, by omega, by go_num, hfu.out.next hjl (by rw [hfd.out, ← hf.out]; simp; omega), hX.out.alloc _⟩
                case measure => simp [intOf]; omega
              · have hck := Lib.hid (hfu.done hjl hid.out hme.out h20)
                go_wp2
                go_ret
                exact ⟨by rw [hck.out]; rfl, hE.out.trans hX⟩

end Go.Proofs.YtphaigncbenmmaaGreatDoor
