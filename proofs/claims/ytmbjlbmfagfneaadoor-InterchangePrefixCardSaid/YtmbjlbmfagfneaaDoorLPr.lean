/- InterchangePrefix says yes of every marker and every place of a cut. -/
import Derived.Test.YtmbjlbmfagfneaaDoorAwk
namespace Go.Proofs.YtmbjlbmfagfneaaDoor
open Go Go.RowKit

theorem long_not {m : Mk} (hlo : long m = false) : ¬ 6 < m.sizes.length ∧ ¬ 60 < m.places.length := by
  unfold long at hlo
  rw [Bool.or_eq_false_iff] at hlo
  exact ⟨of_decide_eq_false hlo.1, of_decide_eq_false hlo.2⟩

theorem last10 (U : ByteArray) (a : Nat) (ha : U.size = a) : (a = 0 ∧ (bs U).getLast?.getD 10 = 10) ∨
    (∃ h : a - 1 < U.size, a ≠ 0 ∧ ((U[a - 1].toNat : Int) == 10) = false ∧ (bs U).getLast?.getD 10 ≠ 10) ∨
    (∃ h : a - 1 < U.size, a ≠ 0 ∧ ((U[a - 1].toNat : Int) == 10) = true ∧ (bs U).getLast?.getD 10 = 10) := by
  subst ha
  by_cases h0 : U.size = 0
  · left
    have : bs U = [] := List.length_eq_zero_iff.1 (by rw [bs_len]; exact h0)
    exact ⟨h0, by rw [this]; rfl⟩
  · right
    have hlt : U.size - 1 < U.size := by omega
    have hg : (bs U).getLast? = some U[U.size - 1] := by
      rw [List.getLast?_eq_getElem?, bs_len, List.getElem?_eq_getElem (by rw [bs_len]; exact hlt)]; rfl
    rw [hg]
    rcases hb : ((U[U.size - 1].toNat : Int) == 10) with _ | _
    · exact .inl ⟨hlt, h0, hb, byte10_no hb⟩
    · exact .inr ⟨hlt, h0, hb, byte10 hb⟩

theorem cell_setSlice {w : World} {p q : Addr} {A : Option Addr} {n c : Nat} {u x : Value} (hp : w.cell? p = some (.slice A n c)) (hq : w.cell? q = some x) (hx : ∀ A n c, x ≠ .slice A n c) : (w.setCell p u).cell? q = some x := by
  rw [World.cell?_setCell_other w p q u, hq]
  rintro rfl
  rw [hp] at hq
  exact hx _ _ _ (Option.some.inj hq).symm
theorem RdI.setSlice {w : World} {v : Value} {xs : List Int} {p : Addr} {A : Option Addr} {n c : Nat} (h : RdI w v xs) (hp : w.cell? p = some (.slice A n c)) (u : Value) : RdI (w.setCell p u) v xs := by
  obtain ⟨A', cap, rfl, h1, h2, h3⟩ := h
  refine ⟨A', cap, rfl, h1, h2, fun j hj => ?_⟩
  obtain ⟨b, o, rfl, hc⟩ := h3 j hj
  exact ⟨b, o, rfl, cell_setSlice hp hc (by simp)⟩
theorem RdP.setSlice {w : World} {v : Value} {xs : List Pl} {p : Addr} {A : Option Addr} {n c : Nat} (h : RdP w v xs) (hp : w.cell? p = some (.slice A n c)) (u : Value) : RdP (w.setCell p u) v xs := by
  obtain ⟨A', cap, rfl, h1, h2, h3⟩ := h
  refine ⟨A', cap, rfl, h1, h2, fun j hj => ?_⟩
  obtain ⟨b, o, rfl, c0, c1, c2, c3, c4, c5, c6⟩ := h3 j hj
  exact ⟨b, o, rfl, cell_setSlice hp c0 (by simp), cell_setSlice hp c1 (by simp), cell_setSlice hp c2 (by simp), cell_setSlice hp c3 (by simp), cell_setSlice hp c4 (by simp), cell_setSlice hp c5 (by simp), cell_setSlice hp c6 (by simp)⟩
theorem RdM.cutPlaces {w : World} {m m' : Mk} {As Ap : Option Addr} {cs cp k : Nat} (e : m' = { m with places := m.places.take k }) (hk : k ≤ m.places.length) (hs : RdI w (.slice As m.sizes.length cs) m.sizes) (hp : RdP w (.slice Ap m.places.length cp) m.places) :
    RdM w (.agg #[.int .i64 m.len, .int .i64 m.wid, .int .i64 m.rx, .int .i64 m.ry, .slice As m.sizes.length cs, .slice Ap k cp]) m' := by
  subst e
  refine ⟨_, _, rfl, hs, ?_⟩
  obtain ⟨A, cap, e, h1, h2, h3⟩ := hp
  injection e with e1 _ e3
  subst e1; subst e3
  have hl : (m.places.take k).length = k := by rw [List.length_take]; omega
  refine ⟨_, _, by show Value.slice Ap k cp = Value.slice Ap (m.places.take k).length cp; rw [hl], by show (m.places.take k).length ≤ cp; omega, h2, fun j hj => ?_⟩
  have hj' : j < m.places.length := by
    have : j < (m.places.take k).length := hj
    omega
  have hg : (m.places.take k)[j]'hj = m.places[j] := by simp
  rw [hg]
  exact h3 j hj'

set_option maxHeartbeats 1000000 in
theorem c_prefix (m : Mk) (a : Nat) (v : Value) (w : World) (ht : Tab w) (hm : RdM w v m) (ha : a ≤ 65535) : Calls Tryd.prog 8 #[v, .int .u16 a] w fun e w' => e = .returned (.bool true) ∧ Ext w w' := by
  obtain ⟨sv, pv, rfl, hsv, hpv⟩ := hm
  obtain ⟨As, cs, rfl⟩ := hsv.nat
  obtain ⟨Ap, cp, rfl, hcp1, hcp2, hpc⟩ := hpv
  have hpv : RdP w (.slice Ap m.places.length cp) m.places := ⟨Ap, cp, rfl, hcp1, hcp2, hpc⟩
  unfold maxLen at hcp2
  clear hpc
  replace hsv := Lib.hid hsv
  replace hpv := Lib.hid hpv
  replace ht := Lib.hid ht
  unfold mkV
  go_enter Tryd.func8, Tryd.ntmps8
  go_wp2_with fail
  refine (c_few m _ _ _ ⟨_, _, rfl⟩ ⟨_, _, rfl⟩).mono ?_
  rintro e w1 ⟨rfl, hx1⟩
  have hb1 := (Blk.new w 27 (mkA m (.slice As m.sizes.length cs) (.slice Ap m.places.length cp))).ext hx1
  have hE1 := Lib.hid (((Ext.refl w).alloc _).trans hx1)
  obtain ⟨⟨q0, q1, q2, q3, q4, q5⟩, ⟨f0, f1, f2, f3, f4, f5⟩, hlt⟩ := hb1.parts6
  replace hb1 := Lib.hid hb1
  clear hx1
  by_cases hf : m.sizes.length ≤ 20 ∧ m.places.length ≤ 70
  rotate_left
  · have hfd : decide (m.sizes.length ≤ 20 ∧ m.places.length ≤ 70) = false := decide_eq_false hf
    rw [hfd]
    go_wp2_with fail
    refine (c_awake _ (ht.out.ext hE1.out)).mono ?_
    rintro e w2 ⟨rfl, hx⟩
    replace hx := Lib.hid hx
    go_wp2
    go_ret
    exact ⟨rfl, hE1.out.trans hx.out⟩
  · have hfd : decide (m.sizes.length ≤ 20 ∧ m.places.length ≤ 70) = true := decide_eq_true hf
    rw [hfd]
    go_wp2_with fail
    refine (c_print m _ _ ⟨_, _, rfl, hsv.out.ext hE1.out, hpv.out.ext hE1.out⟩ (ht.out.ext hE1.out)).mono ?_
    intro e w2 he
    clear hfd
    rcases print_cases m with ⟨hlo, hpr⟩ | ⟨hlo, hok, hpr⟩ | ⟨hlo, hok, hpr⟩
    rotate_left
    rotate_left
    · obtain ⟨rfl, hx⟩ := he.open_ hpr
      clear he
      have hE2 := Lib.hid (hE1.out.trans hx)
      have hb2 := hb1.out.ext hx
      clear hx q0 q1 q2 q3 q4 q5 f0 f1 f2 f3 f4 f5 hlt
      have htl := text_len m hok hlo
      have h60 := (long_not hlo).2
      obtain ⟨T, hT⟩ : ∃ T, T = ofB (textOf m) := ⟨_, rfl⟩
      rw [← hT]
      have hTs : T.size ≤ 20000 := by rw [hT, ofB_size]; exact htl
      have hTb : bs T = textOf m := by rw [hT, bs_ofB]
      clear hT htl
      have hcut := Lib.hid (cut_off m hlo hok ((bs T).take a) ((bs T).drop a) (by rw [List.take_append_drop, hTb]))
      replace hTb := Lib.hid hTb
      replace hlo := Lib.hid hlo
      replace hok := Lib.hid hok
      replace hpr := Lib.hid hpr
      replace hb2 := Lib.hid hb2
      by_cases hat : T.size < a
      · go_wp2_with fail
        refine (c_awake _ (ht.out.ext hE2.out)).mono ?_
        rintro e w3 ⟨rfl, hx⟩
        replace hx := Lib.hid hx
        go_wp2
        go_ret
        exact ⟨rfl, hE2.out.trans hx.out⟩
      · go_wp2_with fail
        obtain ⟨U, hU⟩ : ∃ U, U = T.extract 0 a := ⟨_, rfl⟩
        rw [← hU]
        have hUb : bs U = (bs T).take a := by rw [hU, bs_take, bs_ofB]
        have hUs : U.size = a := by rw [← bs_len, hUb, List.length_take, bs_len]; omega
        clear hU
        rw [← hUb] at hcut
        replace hUb := Lib.hid hUb
        obtain ⟨m', c, l, hr⟩ : ∃ m' c l, parse (bs U) = (m', c, l) := ⟨_, _, _, rfl⟩
        refine (c_parse U _ (ht.out.ext hE2.out) (by omega)).mono ?_
        intro e w3 he
        obtain ⟨sv', pv', rfl, hsv', hpv', hx3⟩ := he.open_ hr
        clear he
        obtain ⟨As', cs', rfl⟩ := hsv'.nat
        obtain ⟨Ap', cp', rfl⟩ := hpv'.slice
        obtain ⟨wD, hwD⟩ : ∃ wD, wD = w3.alloc (.cells (mkA m' (.slice As' m'.sizes.length cs') (.slice Ap' m'.places.length cp')) 27) := ⟨_, rfl⟩
        have h3D := show Ext w3 wD from hwD ▸ (Ext.refl w3).alloc _
        have hbD := Lib.hid (show Blk wD w3.heap.size 27 (mkA m' (.slice As' m'.sizes.length cs') (.slice Ap' m'.places.length cp')) from hwD ▸ Blk.new w3 27 _)
        have hbm := Lib.hid ((hb2.out.ext hx3).ext h3D)
        have hED := Lib.hid ((hE2.out.trans hx3).trans h3D)
        have hsD' := Lib.hid (hsv'.ext h3D)
        have hpD' := Lib.hid (hpv'.ext h3D)
        have hne : ¬ w.heap.size = w3.heap.size := by
          have h1 := hb2.out.lt
          have h2 := hx3.size
          omega
        clear hx3 hsv' hpv' h3D
        unfold mkA at hwD
        replace hwD := Lib.hid hwD
        unfold mkV
        go_wp2_with fail
        rw [← hwD.out]
        refine (c_lines U _ (by omega)).mono ?_
        rintro e w4 ⟨rfl, rfl⟩
        have hcl : (bs U).count 10 ≤ U.size := by rw [← bs_len]; exact List.count_le_length
        obtain ⟨hc1, hc2, hc3⟩ := hcut.out
        clear hcut
        rw [hr] at hc1 hc2 hc3
        replace hr := Lib.hid hr
        rcases last10 U a hUs with ⟨h0, hg⟩ | ⟨hlt1, h0, hlast, hg⟩ | ⟨hlt1, h0, hlast, hg⟩
        · have hcc := hc2 hg (by omega)
          clear hc1 hc2 hc3
          have tN : U.toList = [] := by rw [ByteArray.toList_eq]; exact List.length_eq_zero_iff.1 (hUs.trans h0)
          have tE : U.toList.isEmpty = true := by rw [tN]; rfl
          have e1 : m' = Mk.zero := congrArg (fun x => x.1) hcc
          have e2 : c = _ := congrArg (fun x => x.2.1) hcc
          have e3 : l = _ := congrArg (fun x => x.2.2) hcc
          clear hcc
          subst e1
          subst e2
          subst e3
          replace hg := Lib.hid hg
          go_wp2_with fail
          refine (c_awake _ (ht.out.ext hED.out)).mono ?_
          rintro e w3 ⟨rfl, hx⟩
          replace hx := Lib.hid hx
          go_wp2
          go_ret
          exact ⟨rfl, hED.out.trans hx.out⟩
        · have hcc := hc1 hg
          clear hc1 hc2 hc3
          have tN : ¬ U.toList = [] := by rw [ByteArray.toList_eq]; exact fun h => h0 (hUs.symm.trans (List.length_eq_zero_iff.2 h))
          have tE : U.toList.isEmpty = false := by
            cases e : U.toList.isEmpty with
            | false => rfl
            | true => exact absurd (List.isEmpty_iff.1 e) tN
          have e1 : m' = Mk.zero := congrArg (fun x => x.1) hcc
          have e2 : c = _ := congrArg (fun x => x.2.1) hcc
          have e3 : l = _ := congrArg (fun x => x.2.2) hcc
          clear hcc
          subst e1
          subst e2
          subst e3
          replace hg := Lib.hid hg
          go_wp2_with fail
          refine (c_awake _ (ht.out.ext hED.out)).mono ?_
          rintro e w3 ⟨rfl, hx⟩
          replace hx := Lib.hid hx
          go_wp2
          go_ret
          exact ⟨rfl, hED.out.trans hx.out⟩
        · clear hc1
          have tN : ¬ U.toList = [] := by rw [ByteArray.toList_eq]; exact fun h => h0 (hUs.symm.trans (List.length_eq_zero_iff.2 h))
          have tE : U.toList.isEmpty = false := by
            cases e : U.toList.isEmpty with
            | false => rfl
            | true => exact absurd (List.isEmpty_iff.1 e) tN
          by_cases h2 : (bs U).count 10 < 2
          · have hcc := hc2 hg h2
            clear hc2 hc3
            have e1 : m' = Mk.zero := congrArg (fun x => x.1) hcc
            have e2 : c = _ := congrArg (fun x => x.2.1) hcc
            have e3 : l = _ := congrArg (fun x => x.2.2) hcc
            clear hcc
            subst e1
            subst e2
            subst e3
            replace hg := Lib.hid hg
            go_wp2_with fail
            refine (c_awake _ (ht.out.ext hED.out)).mono ?_
            rintro e w3 ⟨rfl, hx⟩
            replace hx := Lib.hid hx
            go_wp2
            go_ret
            exact ⟨rfl, hED.out.trans hx.out⟩
          · obtain ⟨hle, hcc⟩ := hc3 hg (by omega)
            clear hc2 hc3
            have e1 : m' = _ := congrArg (fun x => x.1) hcc
            have e2 : c = _ := congrArg (fun x => x.2.1) hcc
            have e3 : l = _ := congrArg (fun x => x.2.2) hcc
            clear hcc
            subst e2
            subst e3
            replace e1 := Lib.hid e1
            replace hg := Lib.hid hg
            obtain ⟨⟨q0, q1, q2, q3, q4, q5⟩, ⟨f0, f1, f2, f3, f4, f5⟩, hlt⟩ := hbm.out.parts6
            obtain ⟨⟨r0, r1, r2, r3, r4, r5⟩, _, rlt⟩ := hbD.out.parts6
            have hqp := Lib.hid q5
            go_wp2_with fail
            have hmm : mkV m' (.slice As' m'.sizes.length cs') (.slice Ap' m'.places.length cp') = .agg #[.int .i64 m'.len, .int .i64 m'.wid, .int .i64 m'.rx, .int .i64 m'.ry, .slice As' m'.sizes.length cs', .slice Ap' m'.places.length cp'] := rfl
            refine (c_same m' _ _ _ ⟨_, _, rfl, hsD'.out.setSlice hqp.out _, hpD'.out.setSlice hqp.out _⟩ (RdM.cutPlaces e1.out hle ((hsv.out.ext hED.out).setSlice hqp.out _) ((hpv.out.ext hED.out).setSlice hqp.out _))).mono ?_
            rintro e w5 ⟨rfl, hx5⟩
            have hE5 := Lib.hid ((hED.out.setCell (p := ⟨w.heap.size, 5, none⟩) (Nat.le_refl _) _).trans hx5)
            clear hx5 hmm
            go_wp2_with fail
            refine (c_awake _ (ht.out.ext hE5.out)).mono ?_
            rintro e w6 ⟨rfl, hx⟩
            replace hx := Lib.hid hx
            go_wp2
            go_ret
            exact ⟨rfl, hE5.out.trans hx.out⟩
    all_goals
      obtain ⟨rfl, hx⟩ := he.open_ hpr
      clear he
      have hE2 := Lib.hid (hE1.out.trans hx)
      clear hx
      rw [ofB_nil]
      replace hlo := Lib.hid hlo
      replace hpr := Lib.hid hpr
      go_wp2_with fail
      refine (c_awake _ (ht.out.ext hE2.out)).mono ?_
      rintro e w3 ⟨rfl, hx⟩
      replace hx := Lib.hid hx
      go_wp2
      go_ret
      exact ⟨rfl, hE2.out.trans hx.out⟩

end Go.Proofs.YtmbjlbmfagfneaaDoor
