/- Contract of style.checkWhole. -/
import Derived.Test.YtiahfiopigjolaaGreatMps
namespace Go.Proofs.YtiahfiopigjolaaGreat
open Go Go.RowKit Go.Maps

theorem sizeE_no {l : List ByteArray} {k : Nat} (hk : k < l.length) (h : szB l[k] = false) : sizeE l k = 1 := by unfold sizeE; rw [nth_eq l hk, if_neg (by rw [h]; decide)]
theorem sizeE_yes {l : List ByteArray} {k : Nat} (hk : k < l.length) (h : szB l[k] = true) : sizeE l k = 0 := by unfold sizeE; rw [nth_eq l hk, if_pos h]
theorem dupE_yes {l : List ByteArray} {k : Nat} (hk : k < l.length) (h : upto (fun j => if nth l j = l[k] then 7 else 0) k ≠ 0) : dupE l k = 7 := by
  unfold dupE
  rw [nth_eq l hk]
  generalize hf : (fun j => if nth l j = l[k] then (7 : Int) else 0) = f at *
  have hv : ∀ j, f j = 0 ∨ f j = 7 := fun j => by rw [← hf]; by_cases e : nth l j = l[k] <;> simp [e]
  have : ∀ n, upto f n = 0 ∨ upto f n = 7 := by
    intro n
    induction n with
    | zero => exact .inl rfl
    | succ n ih =>
      rw [upto]
      split
      · exact hv n
      · exact ih
  rcases this k with h0 | h0
  · exact absurd h0 h
  · exact h0
theorem dupE_no {l : List ByteArray} {k : Nat} (hk : k < l.length) (h : upto (fun j => if nth l j = l[k] then 7 else 0) k = 0) : dupE l k = 0 := by
  unfold dupE
  rw [nth_eq l hk]
  exact h
theorem multE_no {l : List Int} {k : Nat} (hk : k < l.length) (h : ¬ (-100 ≤ l[k] ∧ l[k] ≤ 100)) : multE l k = 3 := by
  unfold multE inR; rw [nth_eq l hk, if_neg (by simpa using h)]
theorem multE_yes {l : List Int} {k : Nat} (hk : k < l.length) (h : -100 ≤ l[k] ∧ l[k] ≤ 100) : multE l k = 0 := by
  unfold multE inR; rw [nth_eq l hk, if_pos (by simpa using h)]
section
variable {s : St}
theorem whole_name (h : nmB s.name = false) : wholeE s = 1 := by unfold wholeE; rw [h, if_neg (by simp)]
theorem whole_none (h : s.sizes.length = 0) : wholeE s = 1 := by
  have : s.sizes = [] := List.length_eq_zero_iff.1 h
  unfold wholeE; rw [if_neg (by simp [this])]
theorem whole_step (h : nmB s.name = true) (h2 : ¬ s.sizes.length = 0) : wholeE s =
    (if upto (sizeE s.sizes) s.sizes.length = 0 then
      (if s.mults.length = s.sizes.length ∧ (0 : Int) ∈ s.mults then
        (if upto (dupE s.sizes) s.sizes.length = 0 then
          (if 12 < s.sizes.length ∨ 12 < s.pieces.length ∨ 12 < s.uses.length then 5
          else if 24 < s.seams.length ∨ 16 < s.nops then 5
          else upto (multE s.mults) s.mults.length)
        else 7)
      else 1)
    else 1) := by
  have hne : ¬ s.sizes = [] := fun e => h2 (by rw [e]; rfl)
  rw [wholeE, if_pos (by simp [h, hne])]
theorem whole_size (h : nmB s.name = true) (h2 : ¬ s.sizes.length = 0) (h3 : upto (sizeE s.sizes) s.sizes.length = 1) : wholeE s = 1 := by
  rw [whole_step h h2, h3, if_neg (by decide)]
theorem whole_mult (h : nmB s.name = true) (h2 : ¬ s.sizes.length = 0) (h3 : upto (sizeE s.sizes) s.sizes.length = 0) (h4 : ¬ (s.mults.length = s.sizes.length ∧ (0 : Int) ∈ s.mults)) : wholeE s = 1 := by
  rw [whole_step h h2, if_pos h3, if_neg h4]
theorem whole_dup (h : nmB s.name = true) (h2 : ¬ s.sizes.length = 0) (h3 : upto (sizeE s.sizes) s.sizes.length = 0) (h4 : s.mults.length = s.sizes.length ∧ (0 : Int) ∈ s.mults) (h5 : upto (dupE s.sizes) s.sizes.length = 7) : wholeE s = 7 := by
  rw [whole_step h h2, if_pos h3, if_pos h4, h5, if_neg (by decide)]
theorem whole_many (h : nmB s.name = true) (h2 : ¬ s.sizes.length = 0) (h3 : upto (sizeE s.sizes) s.sizes.length = 0) (h4 : s.mults.length = s.sizes.length ∧ (0 : Int) ∈ s.mults) (h5 : upto (dupE s.sizes) s.sizes.length = 0) (h6 : (12 < s.sizes.length ∨ 12 < s.pieces.length ∨ 12 < s.uses.length) ∨ (24 < s.seams.length ∨ 16 < s.nops)) : wholeE s = 5 := by
  rw [whole_step h h2, if_pos h3, if_pos h4, if_pos h5]
  rcases h6 with h6 | h6
  · rw [if_pos h6]
  · split
    · rfl
    · rfl
theorem whole_end (h : nmB s.name = true) (h2 : ¬ s.sizes.length = 0) (h3 : upto (sizeE s.sizes) s.sizes.length = 0) (h4 : s.mults.length = s.sizes.length ∧ (0 : Int) ∈ s.mults) (h5 : upto (dupE s.sizes) s.sizes.length = 0) (h6 : ¬ (12 < s.sizes.length ∨ 12 < s.pieces.length ∨ 12 < s.uses.length)) (h7 : ¬ (24 < s.seams.length ∨ 16 < s.nops)) : wholeE s = upto (multE s.mults) s.mults.length := by
  rw [whole_step h h2, if_pos h3, if_pos h4, if_pos h5, if_neg h6, if_neg h7]
end
theorem upto_dup (l : List ByteArray) : ∀ n, upto (dupE l) n = 0 ∨ upto (dupE l) n ≠ 0 := fun n => by
  rcases Decidable.em (upto (dupE l) n = 0) with h | h
  · exact .inl h
  · exact .inr h

/-- slices.Contains at a list of numbers that lies in memory -/
theorem c_containsI (v : Value) (xs : List Int) (x : Int) (w : World) (h : RdL 1 inP w v xs) : Calls Tryz.prog 30 #[v, .int .i64 x] w fun e w' => e = .returned (.bool (decide (x ∈ xs))) ∧ w' = w := by
  obtain ⟨A, c, rfl⟩ := h.slice
  have hle := h.le
  unfold maxLen at hle
  rcases xs with _ | ⟨y, r⟩
  · refine (Tryz.slices_Contains_int_empty A c x w).mono ?_
    rintro e w' ⟨rfl, rfl⟩
    exact ⟨by simp, rfl⟩
  · obtain ⟨b, o, rfl, _⟩ := h.int 0 (by simp)
    refine (Tryz.slices_Contains_int b o (y :: r).length c (y :: r) x w (Nat.le_refl _) (by omega) (fun j hj => ?_)).mono ?_
    · obtain ⟨b', o', e, hc⟩ := h.int j hj
      injection e with e
      injection e with e5 e6 _
      subst e5 e6
      rw [List.getD_eq_getElem?_getD, List.getElem?_eq_getElem hj]
      exact hc
    · rintro e w' ⟨rfl, rfl⟩
      refine ⟨?_, rfl⟩
      rw [List.take_length]
      congr 2
      rw [Bool.eq_iff_iff]
      simp

theorem at_eq {H : Type} {x : DataW H} {a b : Bool} (h : x = .lit (.bool a)) (h2 : x = .lit (.bool b)) : a = b := by
  rw [h] at h2
  injection h2 with h2
  injection h2

set_option maxRecDepth 100000 in
set_option maxHeartbeats 4000000 in
theorem c_whole (s : St) (v1 v2 v3 v4 v5 v6 : Value) (w : World) (h : StR w s v1 v2 v3 v4 v5 v6) : Calls Tryz.prog 13 #[.agg (stC s v1 v2 v3 v4 v5 v6).toArray] w fun e w' => e = .returned (.int .i64 (wholeE s)) ∧ Ext w w' := by
  obtain ⟨A1, c1, rfl⟩ := h.sz.slice
  obtain ⟨A2, c2, rfl⟩ := h.mu.slice
  obtain ⟨A3, c3, rfl⟩ := h.pc.slice
  obtain ⟨A4, c4, rfl⟩ := h.us.slice
  obtain ⟨A5, c5, rfl⟩ := h.sm.slice
  obtain ⟨A6, c6, rfl, hops⟩ := h.op
  have hl1 := h.sz.le
  have hl2 := h.mu.le
  have hl3 := h.pc.le
  have hl4 := h.us.le
  have hl5 := h.sm.le
  unfold maxLen at hl1 hl2 hl3 hl4 hl5 hops
  have hsz := Lib.hid h.sz
  have hmu := Lib.hid h.mu
  have hcn := Lib.hid (fun w => c_stName s.name w h.nm)
  clear h
  unfold stC
  go_enter Tryz.func13, Tryz.ntmps13
  go_wp2_with fail
  refine (hcn.out _).mono ?_
  rintro e w1 ⟨rfl, hx⟩
  have hP := Lib.hid ((Blk.new w 29 (stC s (.slice A1 s.sizes.length c1) (.slice A2 s.mults.length c2) (.slice A3 s.pieces.length c3) (.slice A4 s.uses.length c4) (.slice A5 s.seams.length c5) (.slice A6 s.nops c6)).toArray).ext hx)
  have hX := Lib.hid (((Ext.refl w).alloc (.cells (stC s (.slice A1 s.sizes.length c1) (.slice A2 s.mults.length c2) (.slice A3 s.pieces.length c3) (.slice A4 s.uses.length c4) (.slice A5 s.seams.length c5) (.slice A6 s.nops c6)).toArray 29)).trans hx)
  clear hx
  obtain ⟨q0, q1, q2, q3, q4, q5, q6⟩ := hP.out.parts7
  have lP := hP.out.lt
  rcases hnm : nmB s.name with _ | _
  · have hh := Lib.hid (whole_name hnm)
    replace hnm := Lib.hid hnm
    go_wp2
    go_ret
    exact ⟨ret_int hh.out.symm, hX.out⟩
  by_cases h0 : s.sizes.length = 0
  · have hh := Lib.hid (whole_none h0)
    have e0 : ((s.sizes.length : Int) == 0) = true := by rw [h0]; rfl
    replace hnm := Lib.hid hnm
    go_wp2
    go_ret
    exact ⟨ret_int hh.out.symm, hX.out⟩
  have e0 : ((s.sizes.length : Int) == 0) = false := beq_eq_false_iff_ne.2 (by omega)
  have hSize := Lib.hid (fun h3 => whole_size hnm h0 h3)
  have hMult := Lib.hid (fun h3 h4 => whole_mult hnm h0 h3 h4)
  have hDup := Lib.hid (fun h3 h4 h5 => whole_dup hnm h0 h3 h4 h5)
  have hMany := Lib.hid (fun h3 h4 h5 h6 => whole_many hnm h0 h3 h4 h5 h6)
  have hEnd := Lib.hid (fun h3 h4 h5 h6 h7 => whole_end hnm h0 h3 h4 h5 h6 h7)
  replace hnm := Lib.hid hnm
  go_wp2
  clear q0 q1 q2 q3 q4 q5 q6 lP
  go_loopw [23] (fun i wr => ∃ k : Nat, k ≤ s.sizes.length ∧ i = .int .i64 (k : Nat) ∧ Pass (sizeE s.sizes) k ∧ Ext w1 wr) (fun i _ => s.sizes.length - (intOf i).toNat)
  case atStart => exact ⟨0, Nat.zero_le _, rfl, Pass.zero _, Ext.refl _⟩
  case round =>
    obtain ⟨k, hk, rfl, hup, hX1⟩ := hrel
    by_cases hlt : k < s.sizes.length
    · obtain ⟨b, o, rfl, d0, hz⟩ := hsz.out.str k hlt
      have hNo := Lib.hid (fun h => hSize.out (hup.hit hlt (sizeE_no hlt h) (by decide)))
      have hYes := Lib.hid (fun h => hup.next (sizeE_yes hlt h))
      obtain ⟨t, ht⟩ : ∃ t, t = s.sizes[k] := ⟨_, rfl⟩
      rw [← ht] at d0 hz hNo hYes
      clear ht
      have hcz := Lib.hid (fun w => c_stSize t w hz)
      have hX2 := Lib.hid (hX.out.trans hX1)
      replace d0 := hX2.out.cell d0
      replace hX1 := Lib.hid hX1
      replace hup := Lib.hid hup
      have hki : (k : Int) < s.sizes.length := by omega
      go_wp2_with fail
      refine (hcz.out _).mono ?_
      rintro e w2 ⟨rfl, hx⟩
      have hX3 := Lib.hid (hX1.out.trans hx)
      clear hx
      rcases hb : szB t with _ | _
      · have hh := Lib.hid (hNo.out hb)
        replace hb := Lib.hid hb
        go_wp2
        go_ret
        exact ⟨ret_int hh.out.symm, hX.out.trans hX3.out⟩
      · have hup2 := Lib.hid (hYes.out hb)
        replace hb := Lib.hid hb
        go_wp2
        go_roundw
        case rel => exact ⟨k + 1, by omega, by go_num, hup2.out, hX3.out⟩
        case measure => simp [intOf]; omega
    · have hki : ¬ (k : Int) < s.sizes.length := by omega
      have h3 := Lib.hid (hup.done hlt hk)
      have hX2 := Lib.hid (hX.out.trans hX1)
      have hP2 := Lib.hid (hP.out.ext hX1)
      clear hup
      replace hX1 := Lib.hid hX1
      obtain ⟨q0, q1, q2, q3, q4, q5, q6⟩ := hP2.out.parts7
      have lP := hP2.out.lt
      by_cases hml : s.mults.length = s.sizes.length
      rotate_left
      · have hh := Lib.hid (hMult.out h3.out (fun e => hml e.1))
        have e1 : ((s.mults.length : Int) != (s.sizes.length : Int)) = true := bne_iff_ne.2 (by omega)
        have e2 : ¬ (s.mults.length : Int) = (s.sizes.length : Int) := by omega
        go_wp2
        go_ret
        exact ⟨ret_int hh.out.symm, hX2.out⟩
      have e1 : ((s.mults.length : Int) != (s.sizes.length : Int)) = false := by rw [hml]; simp
      have hcc := Lib.hid (fun w h => c_containsI (.slice A2 s.mults.length c2) s.mults 0 w h)
      have hmlh := Lib.hid hml
      have hmli : (s.mults.length : Int) = (s.sizes.length : Int) := by omega
      clear hml
      go_wp2_with fail
      refine (hcc.out _ (hmu.out.ext inP.stays hX2.out)).mono ?_
      rintro e w2 ⟨rfl, rfl⟩
      rcases hz0 : decide ((0 : Int) ∈ s.mults) with _ | _
      · have hh := Lib.hid (hMult.out h3.out (fun e => absurd e.2 (of_decide_eq_false hz0)))
        replace hz0 := Lib.hid hz0
        go_wp2
        go_ret
        exact ⟨ret_int hh.out.symm, hX2.out⟩
      have h4 := Lib.hid (show s.mults.length = s.sizes.length ∧ (0 : Int) ∈ s.mults from ⟨hmlh.out, of_decide_eq_true hz0⟩)
      replace hz0 := Lib.hid hz0
      have hmm := @run_makeMap Tryz.prog
      go_wp2
      clear hmm q0 q1 q2 q3 q4 q5 q6 lP
      obtain ⟨g, hg⟩ : ∃ g, g = w2.heap.size := ⟨_, rfl⟩
      obtain ⟨wM, hwM⟩ : ∃ wM, wM = w2.alloc (.map #[] 0) := ⟨_, rfl⟩
      have hE2 := Lib.hid (show Ext w2 wM from hwM ▸ (Ext.refl w2).alloc _)
      have hM0 := Lib.hid (show wM.ownsMap Tryz.prog 9 (plainElem (H := Unit) Tryz.prog 4) g 0 (Kd s.sizes 0) from hwM ▸ hg ▸ World.ownsMap_made _ _ _ _)
      rw [← hwM, ← hg]
      clear hwM
      go_loopw [48] (fun i wr => ∃ j : Nat, j ≤ s.sizes.length ∧ i = .int .i64 (j : Nat) ∧ wr.ownsMap Tryz.prog 9 (plainElem (H := Unit) Tryz.prog 4) g j (Kd s.sizes j) ∧ Pass (dupE s.sizes) j ∧ Ext w2 wr) (fun i _ => s.sizes.length - (intOf i).toNat)
      case atStart => exact ⟨0, Nat.zero_le _, rfl, hM0.out, Pass.zero _, hE2.out⟩
      case round =>
        obtain ⟨j, hj, rfl, hown, hup, hX3⟩ := hrel
        have hF := Lib.hid (hX2.out.trans hX3)
        by_cases hjl : j < s.sizes.length
        · have hjm : j < maxLen := by unfold maxLen; omega
          obtain ⟨b, o, rfl, d0, hz⟩ := hsz.out.str j hjl
          have hYes := Lib.hid (fun h => hDup.out h3.out h4.out (hup.hit hjl (dupE_yes hjl h) (by decide)))
          have hNo := Lib.hid (fun h => hup.next (dupE_no hjl h))
          have hat0 := Kd_at (H := Unit) s.sizes s.sizes[j] j
          have hst : Kd (H := Unit) s.sizes (j + 1) = (Kd s.sizes j).put (.string s.sizes[j].data.toList) (.lit (.bool true)) := by rw [Kd, nth_eq s.sizes hjl]
          obtain ⟨t, ht⟩ : ∃ t, t = s.sizes[j] := ⟨_, rfl⟩
          rw [← ht] at d0 hz hYes hNo hat0 hst
          clear ht
          have hkey : keyOf Tryz.prog 9 (.string t) = some (.string t.data.toList) := WideMaps.keyOf_string_mk Tryz.underlying9 hz
          replace d0 := hF.out.cell d0
          replace hX3 := Lib.hid hX3
          replace hup := Lib.hid hup
          replace hown := Lib.hid hown
          replace hst := Lib.hid hst
          replace hg := Lib.hid hg
          have hki : (j : Int) < s.sizes.length := by omega
          by_cases hd : upto (fun i => if nth s.sizes i = t then (7 : Int) else 0) j = 0
          · have hat1 := Lib.hid (hat0.trans (by rw [hd]; rfl : _ = .lit (.bool false)))
            have hup2 := Lib.hid (hNo.out hd)
            replace hd := Lib.hid hd
            clear hat0 hYes hNo
            go_wp2_with (first
              | (at_lookup; refine wpList_lookup_own_bool _ rfl _ _ 77 rfl 9 4 law_str Tryz.underlying77 Tryz.underlying4 (zero_bool _) g j _ rfl hown.out _ _ rfl hkey ?_; intro cv hat; obtain rfl := at_eq hat hat1.out; clear hat)
              | (at_mapUpdate; refine wpList_mapUpdate_own _ rfl _ _ _ 77 rfl 9 4 law_str Tryz.underlying77 _ g j _ rfl hown.out hjm _ _ _ rfl rfl hkey _ [] (plainElem_bool Tryz.underlying4 true) ?_; intro w4 hown4 hgrow4)
              | go_in)
            go_roundw
            case rel => exact ⟨j + 1, by omega, by go_num, by rw [hst.out]; exact hown4, hup2.out, hX3.out.grown hgrow4 (fun k e => by injection e with e; rw [← e, hg.out]; exact Nat.le_refl _)⟩
            case measure => simp [intOf]; omega
          · have hat1 := Lib.hid (hat0.trans (by rw [decide_eq_true hd] : _ = .lit (.bool true)))
            have hh := Lib.hid (hYes.out hd)
            replace hd := Lib.hid hd
            clear hat0 hYes hNo
            go_wp2_with (first
              | (at_lookup; refine wpList_lookup_own_bool _ rfl _ _ 77 rfl 9 4 law_str Tryz.underlying77 Tryz.underlying4 (zero_bool _) g j _ rfl hown.out _ _ rfl hkey ?_; intro cv hat; obtain rfl := at_eq hat hat1.out; clear hat)
              | go_in)
            go_ret
            exact ⟨ret_int hh.out.symm, hF.out⟩
        · have hki : ¬ (j : Int) < s.sizes.length := by omega
          have h5 := Lib.hid (hup.done hjl hj)
          have hP3 := Lib.hid (hP2.out.ext hX3)
          clear hup hown
          replace hX3 := Lib.hid hX3
          replace hg := Lib.hid hg
          obtain ⟨q0, q1, q2, q3, q4, q5, q6⟩ := hP3.out.parts7
          have lP := hP3.out.lt
          by_cases t1 : 12 < s.sizes.length
          · have hh := Lib.hid (hMany.out h3.out h4.out h5.out (.inl (.inl t1)))
            go_wp2
            go_ret
            exact ⟨ret_int hh.out.symm, hF.out⟩
          by_cases t2 : 12 < s.pieces.length
          · have hh := Lib.hid (hMany.out h3.out h4.out h5.out (.inl (.inr (.inl t2))))
            go_wp2
            go_ret
            exact ⟨ret_int hh.out.symm, hF.out⟩
          by_cases t3 : 12 < s.uses.length
          · have hh := Lib.hid (hMany.out h3.out h4.out h5.out (.inl (.inr (.inr t3))))
            go_wp2
            go_ret
            exact ⟨ret_int hh.out.symm, hF.out⟩
          by_cases t4 : 24 < s.seams.length
          · have hh := Lib.hid (hMany.out h3.out h4.out h5.out (.inr (.inl t4)))
            go_wp2
            go_ret
            exact ⟨ret_int hh.out.symm, hF.out⟩
          by_cases t5 : 16 < s.nops
          · have hh := Lib.hid (hMany.out h3.out h4.out h5.out (.inr (.inr t5)))
            go_wp2
            go_ret
            exact ⟨ret_int hh.out.symm, hF.out⟩
          have hend := Lib.hid (hEnd.out h3.out h4.out h5.out (by omega) (by omega))
          go_wp2
          clear q0 q1 q2 q3 q4 q5 q6 lP
          go_loop [87] (fun i => ∃ m : Nat, m ≤ s.mults.length ∧ i = .int .i64 (m : Nat) ∧ Pass (multE s.mults) m) (fun i => s.mults.length - (intOf i).toNat)
          case atStart => exact ⟨0, Nat.zero_le _, rfl, Pass.zero _⟩
          case round =>
            obtain ⟨m, hm, rfl, hup⟩ := hrel
            by_cases hml2 : m < s.mults.length
            · obtain ⟨b, o, rfl, d0⟩ := hmu.out.int m hml2
              have hNo := Lib.hid (fun h => hend.out.trans (hup.hit hml2 (multE_no hml2 h) (by decide)))
              have hYes := Lib.hid (fun h => hup.next (multE_yes hml2 h))
              obtain ⟨x, hx⟩ : ∃ x, x = s.mults[m] := ⟨_, rfl⟩
              rw [← hx] at d0 hNo hYes
              clear hx
              replace d0 := hF.out.cell d0
              replace hup := Lib.hid hup
              have hki2 : (m : Int) < s.mults.length := by omega
              have hki3 : (m : Int) < s.sizes.length := by have := hmlh.out; omega
              have hki4 : m < s.sizes.length := by omega
              by_cases x0 : x < -100
              · have hh := Lib.hid (hNo.out (by omega))
                go_wp2
                go_ret
                exact ⟨ret_int hh.out.symm, hF.out⟩
              · by_cases x1 : 100 < x
                · have hh := Lib.hid (hNo.out (by omega))
                  go_wp2
                  go_ret
                  exact ⟨ret_int hh.out.symm, hF.out⟩
                · have hup2 := Lib.hid (hYes.out (by omega))
                  go_wp2
                  go_round
                  case rel => exact ⟨m + 1, by omega, by go_num, hup2.out⟩
                  case measure => simp [intOf]; omega
            · have hki2 : ¬ (m : Int) < s.mults.length := by omega
              have hki3 : ¬ (m : Int) < s.sizes.length := by have := hmlh.out; omega
              have hki4 : ¬ m < s.sizes.length := by omega
              have hz := Lib.hid (hend.out.trans (hup.done hml2 hm))
              go_wp2
              go_ret
              exact ⟨ret_int hz.out.symm, hF.out⟩

end Go.Proofs.YtiahfiopigjolaaGreat
