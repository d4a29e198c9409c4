/- Contracts of the reference's checks: right, check, Check, Name; one, Check, asked. -/
import Derived.Test.YthfcllefmeoicaaRCmpB
import Derived.Test.YthfcllefmeoicaaRName
import Derived.Test.YthfcllefmeoicaaAli
namespace Go.Proofs.Ythfcllefmeoicaa
open Go.RowKit
attribute [local go_sem ↓] Go.wp_at_zero Go.wp_at_succ

theorem Blk.parts6 {w : World} {g : Nat} {t : TypeId} {a b c d e f : Value} (h : Blk w g t #[a, b, c, d, e, f]) :
    w.cell? ⟨g, 0, none⟩ = some a ∧ w.cell? ⟨g, 1, none⟩ = some b ∧ w.cell? ⟨g, 2, none⟩ = some c ∧ w.cell? ⟨g, 3, none⟩ = some d ∧ w.cell? ⟨g, 4, none⟩ = some e ∧ w.cell? ⟨g, 5, none⟩ = some f ∧ g < w.heap.size :=
  ⟨h.cell 0, h.cell 1, h.cell 2, h.cell 3, h.cell 4, h.cell 5, h.lt⟩

set_option maxHeartbeats 1000000 in
theorem c_rRight (s : ByteArray) (w : World) (hs : s.size ≤ maxLen) : Calls Try.prog 67 #[nameExpr s] w fun e w' => e = .returned (.bool (nmB s)) ∧ Ext w w' := by
  unfold nameExpr
  have HS := Lib.hid hs
  clear hs
  go_enter Try.func67, Try.ntmps67
  go_wp2_with fail
  have hB := Blk.new w 50 #[.int .i64 2, .bool false, .slice none 0 0, .slice none 0 0, .string s, .slice none 0 0]
  have hX := Lib.hid ((Ext.refl w).alloc (.cells #[.int .i64 2, .bool false, .slice none 0 0, .slice none 0 0, .string s, .slice none 0 0] 50))
  generalize w.alloc (.cells #[.int .i64 2, .bool false, .slice none 0 0, .slice none 0 0, .string s, .slice none 0 0] 50) = W at *
  obtain ⟨c0, c1, c2, c3, c4, c5, l0⟩ := hB.parts6
  have hN : W.heap.size ≤ W.heap.size := Nat.le_refl _
  replace hB := Lib.hid hB
  go_region_held3 (fun w' => (∀ b o, b < W.heap.size → w'.cell? ⟨b, o, none⟩ = W.cell? ⟨b, o, none⟩) ∧ Kp W.heap.size W w')
    (first
      | exact (Kp.start hN).drew.both
      | (go_split_ands; exact ((by assumption : Kp _ _ _).call he).both))
    (first
      | (go_at_call 77; refine (c_whole _).mono ?_; rintro e w1 ⟨p, A, n, c, rfl, hp, he⟩; replace hp := Lib.hid hp)
      | (go_at_call 76; refine (c_rRatCmp0 _ _ _ _ _ _ _ _ _ (RdN.nil _) hp.out.empty).mono ?_; rintro e w2 ⟨rfl, he⟩))
  have hfin := Lib.hid ((by assumption : _ ∧ Kp W.heap.size W w2).2.ext (Ext.refl _) (Nat.le_refl _))
  have hB2 := hB.out.ext hfin.out
  clear c0 c1 c2 c3 c4 c5 l0
  obtain ⟨c0, c1, c2, c3, c4, c5, l0⟩ := hB2.parts6
  cases hn : nmB s with
  | true =>
    go_wp2_with fail
    refine (c_rName s _ HS.out).mono ?_
    rintro e w3 ⟨rfl, rfl⟩
    rw [hn]
    go_wp2_with fail
    go_ret
    exact ⟨ret_bool hn.symm, hX.out.trans hfin.out⟩
  | false =>
    go_wp2_with fail
    refine (c_rName s _ HS.out).mono ?_
    rintro e w3 ⟨rfl, rfl⟩
    rw [hn]
    go_wp2_with fail
    go_ret
    exact ⟨ret_bool hn.symm, hX.out.trans hfin.out⟩

set_option maxHeartbeats 400000 in
theorem c_rCheck1 (s : ByteArray) (w : World) (hs : s.size ≤ maxLen) : Calls Try.prog 56 #[nameExpr s, .int .i64 1] w fun e w' => e = .returned (.int .i64 (nmE s)) ∧ Ext w w' := by
  have HS := Lib.hid hs
  clear hs
  cases hn : nmB s with
  | true =>
    unfold nameExpr
    go_enter Try.func56, Try.ntmps56
    go_wp2_with (first
      | (go_at_call 67; refine (c_rRight s _ HS.out).mono ?_; rintro e w1 ⟨rfl, he⟩; have hb := he.cell (p := ⟨w.heap.size, 5, none⟩) (v := .slice none 0 0) (by simp); have he := Lib.hid he))
    go_loop [5] (fun i => i = .int .i64 0) (fun i => 0)
    case atStart => rfl
    case round =>
      subst hrel
      go_wp2
      go_ret
      exact ⟨ret_int (by simp [nmE, hn]), ((Ext.refl _).alloc _).trans he.out⟩
  | false =>
    unfold nameExpr
    go_enter Try.func56, Try.ntmps56
    go_wp2_with (first
      | (go_at_call 67; refine (c_rRight s _ HS.out).mono ?_; rintro e w1 ⟨rfl, he⟩; have he := Lib.hid he))
    go_ret
    exact ⟨ret_int (by simp [nmE, hn]), ((Ext.refl _).alloc _).trans he.out⟩

set_option maxHeartbeats 400000 in
theorem c_rCheckE (s : ByteArray) (w : World) (hs : s.size ≤ maxLen) : Calls Try.prog 50 #[nameExpr s] w fun e w' => e = .returned (.int .i64 (nmE s)) ∧ Ext w w' := by
  have HS := Lib.hid hs
  clear hs
  unfold nameExpr
  go_enter Try.func50, Try.ntmps50
  go_wp2_with (first
    | (go_at_call 56; refine (c_rCheck1 s _ HS.out).mono ?_; rintro e w1 ⟨rfl, he⟩; have he := Lib.hid he))
  go_ret
  exact ⟨rfl, ((Ext.refl _).alloc _).trans he.out⟩

set_option maxHeartbeats 400000 in
theorem c_rNameIs (s : ByteArray) (w : World) (hs : s.size ≤ maxLen) : Calls Try.prog 45 #[.string s] w fun e w' => e = .returned (.bool (nmB s)) ∧ Ext w w' := by
  have HS := Lib.hid hs
  clear hs
  go_enter Try.func45, Try.ntmps45
  go_wp2_with (first
    | (go_at_call 50; refine (c_rCheckE s _ HS.out).mono ?_; rintro e w1 ⟨rfl, he⟩; have he := Lib.hid he))
  go_ret
  refine ⟨ret_bool ?_, he.out⟩
  unfold nmE
  cases nmB s <;> rfl

theorem quietS {P : Program} {f : FuncId} {args : Array Value} {w : World} {n : Nat} {v : Value} (h : Calls P f args (w.drewN n) fun e w' => e = .returned v ∧ w.drewN n = w') :
    Calls P f args (w.drewN n) fun e w'' => e = .returned v ∧ ∃ m, w'' = w.drewN m := h.mono fun _ _ ⟨he, hm⟩ => ⟨he, n, hm.symm⟩
theorem rdI_take {w : World} {A : Option Addr} {n cap : Nat} {xs : List Int} (h : RdI w (.slice A n cap) xs) (k : Nat) (hk : k ≤ xs.length) : RdI w (.slice A k cap) (xs.take k) := by
  obtain ⟨A', cap', e, h1, h2, h3⟩ := h
  injection e with e1 _ e3
  subst e1 e3
  refine ⟨A, cap, by rw [List.length_take, Nat.min_eq_left hk], by rw [List.length_take]; omega, h2, fun j hj => ?_⟩
  rw [List.length_take] at hj
  obtain ⟨b, o, e, hc⟩ := h3 j (by omega)
  exact ⟨b, o, e, by rw [List.getElem_take]; exact hc⟩
theorem rdW_take {w : World} {A : Option Addr} {n cap : Nat} {ws : List Wk} (h : RdW w (.slice A n cap) ws) (k : Nat) (hk : k ≤ ws.length) : RdW w (.slice A k cap) (ws.take k) := by
  obtain ⟨A', cap', e, h1, h2, h3⟩ := h
  injection e with e1 _ e3
  subst e1 e3
  refine ⟨A, cap, by rw [List.length_take, Nat.min_eq_left hk], by rw [List.length_take]; omega, h2, fun j hj => ?_⟩
  rw [List.length_take] at hj
  obtain ⟨b, o, mv, e, hc, hd, hr, hs⟩ := h3 j (by omega)
  rw [List.getElem_take]
  exact ⟨b, o, mv, e, hc, hd, hr, hs⟩

set_option maxHeartbeats 1000000 in
theorem c_one (v mv : Value) (nm : ByteArray) (xs : List Int) (bef : List Wk) (w : World) (h : RdW w v bef) (g : RdI w mv xs) (hs : nm.size ≤ maxLen) :
    Calls Try.prog 29 #[v, .agg #[.string nm, mv]] w fun e w' => e = .returned (.int .i64 (wkE bef ⟨nm, xs⟩)) ∧ Ext w w' := by
  have HS := Lib.hid hs
  clear hs
  have HM := Lib.hid g
  obtain ⟨A, cap, rfl, hcap, hmax, hc⟩ := h
  obtain ⟨MA, mcap, rfl, mh1, mh2, mh3⟩ := g
  unfold maxLen at hmax mh2
  replace hc := Lib.hid hc
  replace mh3 := Lib.hid mh3
  cases hn : nmB nm with
  | false =>
    have hfin := Lib.hid (show wkE bef ⟨nm, xs⟩ = 1 by simp [wkE, hn])
    go_enter Try.func29, Try.ntmps29
    go_wp2_with fail
    refine (c_rNameIs nm _ HS.out).mono ?_
    rintro e w1 ⟨rfl, he⟩
    rw [hn]
    replace he := Lib.hid he
    go_wp2_with fail
    go_ret
    exact ⟨ret_int hfin.out.symm, ((Ext.refl _).alloc _).trans he.out⟩
  | true =>
    go_enter Try.func29, Try.ntmps29
    go_wp2_with fail
    refine (c_rNameIs nm _ HS.out).mono ?_
    rintro e w1 ⟨rfl, he⟩
    rw [hn]
    have hB := (Blk.new w 28 #[.string nm, .slice MA xs.length mcap]).ext he
    have hX := Lib.hid (((Ext.refl w).alloc (.cells #[.string nm, .slice MA xs.length mcap] 28)).trans he)
    clear he
    replace hB := Lib.hid hB
    go_wp2_with fail
    go_loopw [5] (fun i wr => ∃ j : Nat, j ≤ bef.length ∧ i = .int .i64 j ∧ Hid (hasName (bef.take j) nm = false) ∧ Ext w1 wr) (fun i _ => bef.length - (intOf i).toNat)
    case atStart => exact ⟨0, Nat.zero_le _, rfl, Lib.hid (by simp [hasName]), Ext.refl _⟩
    case round =>
      obtain ⟨j, hj, rfl, HJ, hext⟩ := hrel
      have hB2 := hB.out.ext hext
      obtain ⟨hb0, hb1, _, _, hb4⟩ := hB2.parts2
      replace hext := Lib.hid hext
      by_cases hjl : j < bef.length
      · obtain ⟨b, o, mv', rfl, hcn, hcm, _, _⟩ := hc.out j hjl
        replace hcn := hext.out.cell (hX.out.cell hcn)
        have i0 : (0 : Int) ≤ (j : Int) := by omega
        have i1 : (j : Int) < (bef.length : Int) := by omega
        clear hcm hB2
        cases heq : (bef[j].name.toList == nm.toList) with
        | true =>
          have hfin := Lib.hid (show wkE bef ⟨nm, xs⟩ = 7 by
            have := hasName_hit (ws := bef) (k := bef.length) hjl (Nat.le_refl _) heq
            rw [List.take_length] at this
            simp [wkE, hn, this])
          go_wp2_with fail
          go_quiet (fail)
          go_wp2_with fail
          go_ret
          exact ⟨ret_int hfin.out.symm, hX.out.trans (hext.out.drewN _)⟩
        | false =>
          have hnx := Lib.hid (show hasName (bef.take (j + 1)) nm = false by rw [hasName_snoc bef j hjl, HJ.out, heq]; rfl)
          go_wp2_with fail
          go_quiet (fail)
          go_wp2_with fail
          go_roundw
          case rel => exact ⟨j + 1, by omega, by go_num, hnx, hext.out.drewN _⟩
          case measure => simp [intOf]; omega
      · have hno := Lib.hid (show wkE bef ⟨nm, xs⟩ = machE [] xs by
          have h1 := HJ.out
          rw [List.take_of_length_le (by omega)] at h1
          simp [wkE, hn, h1])
        obtain ⟨wo, rfl⟩ : ∃ wo : World, wo = wr := ⟨_, rfl⟩
        have hBo := Lib.hid hB2
        have hXo := Lib.hid (hX.out.trans hext.out)
        clear hb0 hb1 hb4 hB2
        go_wp2_with fail
        go_loopw [6] (fun i wr => ∃ m : Nat, m ≤ xs.length ∧ i = .int .i64 m ∧ Hid (machE [] xs = machE (xs.take m) (xs.drop m)) ∧ Ext wo wr) (fun i _ => xs.length - (intOf i).toNat)
        case atStart => exact ⟨0, Nat.zero_le _, rfl, Lib.hid (by simp), Ext.refl _⟩
        case round =>
          obtain ⟨m, hm, rfl, HK, hext3⟩ := hrel
          have hB2 := hBo.out.ext hext3
          obtain ⟨hb0, hb1, _, _, hb4⟩ := hB2.parts2
          replace hext3 := Lib.hid hext3
          clear hB2
          by_cases hmlt : m < xs.length
          · obtain ⟨b2, o2, rfl, hcell⟩ := mh3.out m hmlt
            replace hcell := hext3.out.cell (hXo.out.cell hcell)
            have hms := Lib.hid (machE_step xs m hmlt)
            have i0 : (0 : Int) ≤ (m : Int) := by omega
            have i1 : (m : Int) < (xs.length : Int) := by omega
            have i2 : (m : Int) ≤ (mcap : Int) := by omega
            cases hM : isM xs[m] with
            | false =>
              have hfin := Lib.hid (show wkE bef ⟨nm, xs⟩ = 3 by rw [hno.out, HK.out, hms.out, hM]; simp)
              go_wp2_with (go_at_call 46; refine (c_machine _ _).mono ?_; rintro e w1 ⟨rfl, rfl⟩; rw [hM])
              go_ret
              exact ⟨ret_int hfin.out.symm, hXo.out.trans hext3.out⟩
            | true =>
              have hq := Lib.hid (show ∀ n, Calls Try.prog 26 #[.slice (some ⟨b2, o2, none⟩) m mcap, .int .i64 xs[m]] (wr.drewN n) (fun e w' => e = .returned (.bool (memI xs[m] (xs.take m))) ∧ wr.drewN n = w') from fun n =>
                c_in _ _ _ _ ((rdI_take ((HM.out.ext hXo.out).ext hext3.out) m hm).ext ((Ext.refl wr).drewN n)))
              cases hS : memI xs[m] (xs.take m) with
              | true =>
                have hfin := Lib.hid (show wkE bef ⟨nm, xs⟩ = 7 by rw [hno.out, HK.out, hms.out, hM, hS]; simp)
                rw [hS] at hq
                go_wp2_with (go_at_call 46; refine (c_machine _ _).mono ?_; rintro e w1 ⟨rfl, rfl⟩; rw [hM])
                go_quiet ((go_at_call 26; exact quietS (hq.out _)))
                go_wp2_with fail
                go_ret
                exact ⟨ret_int hfin.out.symm, hXo.out.trans (hext3.out.drewN _)⟩
              | false =>
                rw [hS] at hq
                go_wp2_with (go_at_call 46; refine (c_machine _ _).mono ?_; rintro e w1 ⟨rfl, rfl⟩; rw [hM])
                go_quiet ((go_at_call 26; exact quietS (hq.out _)))
                go_wp2_with fail
                go_roundw
                case rel => exact ⟨m + 1, by omega, by go_num, Lib.hid (by rw [HK.out, hms.out, hM, hS]; simp), hext3.out.drewN _⟩
                case measure => simp [intOf]; omega
          · go_wp2_with fail
            go_ret
            refine ⟨ret_int ?_, hXo.out.trans hext3.out⟩
            rw [hno.out, HK.out, List.drop_of_length_le (by omega)]; rfl
end Go.Proofs.Ythfcllefmeoicaa
