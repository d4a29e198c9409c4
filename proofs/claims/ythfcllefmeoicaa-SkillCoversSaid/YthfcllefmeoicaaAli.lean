/- Contracts of Match and Cover in every case, of light, three, alive. -/
import Derived.Test.YthfcllefmeoicaaCov
import Derived.Test.YthfcllefmeoicaaLawA
namespace Go.Proofs.Ythfcllefmeoicaa
open Go.RowKit

/-- what Match returns -/
def mtL (ws : List Wk) (needs : List Int) : List Int := if askE ws needs = 0 then matL (setsW ws needs) else []
/-- what Cover returns -/
def cvL (ws : List Wk) (needs : List Int) : List Int × List Int := if askE ws needs = 0 then (covM (setsW ws needs) ws.length (2 ^ ws.length)).2 else ([], [])

set_option maxHeartbeats 1000000 in
theorem c_matchAny (v u : Value) (ws : List Wk) (needs : List Int) (w : World) (h : RdW w v ws) (g : RdI w u needs) :
    Calls Try.prog 17 #[v, u] w fun e w' => ∃ r, e = .returned (.tuple #[r, .int .i64 (askE ws needs)]) ∧ RdI w' r (mtL ws needs) ∧ Fresh w.heap.size r ∧ Ext w w' := by
  by_cases h0 : askE ws needs = 0
  · refine (c_match v u ws needs w h g h0).mono ?_
    rintro e w' ⟨r, rfl, h1, h2, h3⟩
    refine ⟨r, by rw [h0], ?_, h2, h3⟩
    unfold mtL matL
    rw [if_pos h0, show (setsW ws needs).length = needs.length by simp [setsW]]
    exact h1
  · have hE : (askE ws needs != 0) = true := by simp [h0]
    have hh := Lib.hid h
    have gg := Lib.hid g
    have h0 := Lib.hid h0
    go_enter Try.func17, Try.ntmps17
    go_wp2_with fail
    refine (c_checkNeeds _ _ ws needs _ hh.out gg.out).mono ?_
    rintro e wa ⟨rfl, hea⟩
    have hea := Lib.hid hea
    go_wp2_with fail
    go_ret2
    exact ⟨_, rfl, by unfold mtL; rw [if_neg h0.out]; exact RdI.nil _, Fresh.nil _ _ _, hea.out⟩

set_option maxHeartbeats 1000000 in
theorem c_coverAny (v u : Value) (ws : List Wk) (needs : List Int) (w : World) (h : RdW w v ws) (g : RdI w u needs) :
    Calls Try.prog 20 #[v, u] w fun e w' => ∃ r s, e = .returned (.tuple #[r, s, .int .i64 (askE ws needs)]) ∧ RdI w' r (cvL ws needs).1 ∧ RdI w' s (cvL ws needs).2 ∧ Fresh w.heap.size r ∧ Fresh w.heap.size s ∧ Ext w w' := by
  by_cases h0 : askE ws needs = 0
  · refine (c_cover v u ws needs w h g h0).mono ?_
    rintro e w' ⟨r, s, rfl, h1, h2, h3⟩
    refine ⟨r, s, by rw [h0], ?_, ?_, h3⟩
    · unfold cvL; rw [if_pos h0]; exact h1
    · unfold cvL; rw [if_pos h0]; exact h2
  · have hE : (askE ws needs != 0) = true := by simp [h0]
    have hh := Lib.hid h
    have gg := Lib.hid g
    have h0 := Lib.hid h0
    go_enter Try.func20, Try.ntmps20
    go_wp2_with fail
    refine (c_checkNeeds _ _ ws needs _ hh.out gg.out).mono ?_
    rintro e wa ⟨rfl, hea⟩
    have hea := Lib.hid hea
    go_wp2_with fail
    go_ret3
    exact ⟨_, _, rfl, by unfold cvL; rw [if_neg h0.out]; exact RdI.nil _, by unfold cvL; rw [if_neg h0.out]; exact RdI.nil _, Fresh.nil _ _ _, Fresh.nil _ _ _, hea.out⟩

/-- a worker with few machines and a short name -/
def lightW (x : Wk) : Bool := decide (x.mach.length ≤ 12) && decide (x.name.size ≤ 100)
/-- at most 14 workers with at most 12 machines each, and at most 20 needs -/
def lightB (ws : List Wk) (n : Nat) : Bool := decide (ws.length ≤ 14) && decide (n ≤ 20) && ws.all lightW

set_option maxHeartbeats 1000000 in
theorem c_light (v u : Value) (ws : List Wk) (needs : List Int) (w : World) (h : RdW w v ws) (g : RdI w u needs) :
    Calls Try.prog 11 #[v, u] w fun e w' => e = .returned (.bool (lightB ws needs.length)) ∧ w = w' := by
  obtain ⟨B, capB, rfl, hcapB, hmaxB, _⟩ := g
  obtain ⟨A, cap, rfl, hcap, hmax, hc⟩ := h
  unfold maxLen at hmax hmaxB
  by_cases h14 : 14 < ws.length
  · go_enter Try.func11, Try.ntmps11
    go_wp2
    go_ret
    exact ⟨ret_bool (by simp [lightB]; omega), rfl⟩
  by_cases h20 : 20 < needs.length
  · have h14' : decide (14 < (ws.length : Int)) = false := by simp; omega
    go_enter Try.func11, Try.ntmps11
    go_wp2
    go_ret
    exact ⟨ret_bool (by simp [lightB]; omega), rfl⟩
  have h14' : decide (14 < (ws.length : Int)) = false := by simp; omega
  have h20' : decide (20 < (needs.length : Int)) = false := by simp; omega
  have hL := Lib.hid (show lightB ws needs.length = ws.all lightW by simp [lightB]; omega)
  go_enter Try.func11, Try.ntmps11
  go_wp2
  go_loop [5] (fun i => ∃ k : Nat, k ≤ ws.length ∧ i = .int .i64 k ∧ Hid ((ws.take k).all lightW = true)) (fun i => ws.length - (intOf i).toNat)
  case atStart => exact ⟨0, Nat.zero_le _, rfl, Lib.hid (by simp)⟩
  case round =>
    obtain ⟨k, hk, rfl, HK⟩ := hrel
    by_cases hlt : k < ws.length
    · obtain ⟨b, o, mv, rfl, hn, hm, hr, hsz⟩ := hc k hlt
      obtain ⟨MA, mcap, rfl, mh1, mh2, mh3⟩ := hr
      unfold maxLen at mh2 hsz
      clear hc mh3
      have hno : lightW ws[k] = false → ws.all lightW = false := fun h => by
        rw [Bool.eq_false_iff]; intro ha; rw [List.all_eq_true] at ha
        rw [ha ws[k] (List.getElem_mem hlt)] at h; cases h
      by_cases hm12 : 12 < ws[k].mach.length
      · have hfin := Lib.hid (hno (by simp [lightW]; omega))
        clear hno
        go_wp2
        go_ret
        exact ⟨ret_bool (by rw [hL.out, hfin.out]), rfl⟩
      · have hm12' : decide (12 < (ws[k].mach.length : Int)) = false := by simp; omega
        by_cases hn100 : 100 < ws[k].name.size
        · have hfin := Lib.hid (hno (by simp [lightW]; omega))
          clear hno
          go_wp2
          go_ret
          exact ⟨ret_bool (by rw [hL.out, hfin.out]), rfl⟩
        · have hn100' : decide (100 < (ws[k].name.size : Int)) = false := by simp; omega
          have hok := Lib.hid (show lightW ws[k] = true by simp [lightW]; omega)
          clear hno
          go_wp2
          go_round
          case rel => exact ⟨k + 1, by omega, by go_num, Lib.hid (by rw [take_snoc ws k hlt, List.all_append, HK.out]; simp [hok.out])⟩
          case measure => simp [intOf]; omega
    · go_wp2
      go_ret
      refine ⟨ret_bool ?_, rfl⟩
      have := HK.out
      rw [List.take_of_length_le (by omega)] at this
      rw [hL.out, this]

/-- the workers of the example -/
def threeW : List Wk := [⟨⟨#[97, 110, 110]⟩, [1, 0]⟩, ⟨⟨#[98, 101, 97]⟩, [0]⟩, ⟨⟨#[99, 101, 109]⟩, [2]⟩]

theorem rdI_blk {w : World} {g : Nat} {t : TypeId} (xs : List Int) {cs : Array Value} (h : Blk w g t cs) (hc : cs = (xs.map (Value.int .i64)).toArray) (hm : xs.length ≤ 1000) : RdI w (.slice (some ⟨g, 0, none⟩) xs.length xs.length) xs := by
  refine ⟨_, xs.length, rfl, Nat.le_refl _, by unfold maxLen; omega, fun j hj => ⟨g, 0, rfl, ?_⟩⟩
  rw [h.cell, hc]
  simp [hj]
theorem rdI_new (w : World) (t : TypeId) (xs : List Int) (cs : Array Value) (hc : cs = (xs.map (Value.int .i64)).toArray) (hm : xs.length ≤ 1000) : RdI (w.alloc (.cells cs t)) (.slice (some ⟨w.heap.size, 0, none⟩) xs.length xs.length) xs :=
  rdI_blk xs (Blk.new w t cs) hc hm

set_option maxHeartbeats 1000000 in
theorem c_three (w : World) : Calls Try.prog 24 #[] w fun e w' => ∃ a, e = .returned (.slice (some ⟨a, 0, none⟩) 3 3) ∧ RdW w' (.slice (some ⟨a, 0, none⟩) 3 3) threeW ∧ Ext w w' := by
  go_enter Try.func24, Try.ntmps24
  go_wp2
  go_ret
  refine ⟨_, rfl, ?_, (((Ext.refl _).alloc _).alloc _).alloc _ |>.alloc _⟩
  have h1 := ((((rdI_new w 3 [1, 0] _ rfl (by decide)).ext ((Ext.refl _).alloc (.cells #[.int .i64 0] 3))).ext ((Ext.refl _).alloc (.cells #[.int .i64 2] 3))).ext
    ((Ext.refl _).alloc (.cells #[.string ⟨#[97, 110, 110]⟩, .slice (some ⟨w.heap.size, 0, none⟩) 2 2, .string ⟨#[98, 101, 97]⟩, .slice (some ⟨w.heap.size + 1, 0, none⟩) 1 1, .string ⟨#[99, 101, 109]⟩, .slice (some ⟨w.heap.size + 1 + 1, 0, none⟩) 1 1] 28)))
  have h2 := (((rdI_new (w.alloc (.cells #[.int .i64 1, .int .i64 0] 3)) 3 [0] _ rfl (by decide)).ext ((Ext.refl _).alloc (.cells #[.int .i64 2] 3))).ext
    ((Ext.refl _).alloc (.cells #[.string ⟨#[97, 110, 110]⟩, .slice (some ⟨w.heap.size, 0, none⟩) 2 2, .string ⟨#[98, 101, 97]⟩, .slice (some ⟨w.heap.size + 1, 0, none⟩) 1 1, .string ⟨#[99, 101, 109]⟩, .slice (some ⟨w.heap.size + 1 + 1, 0, none⟩) 1 1] 28)))
  have h3 := ((rdI_new ((w.alloc (.cells #[.int .i64 1, .int .i64 0] 3)).alloc (.cells #[.int .i64 0] 3)) 3 [2] _ rfl (by decide)).ext
    ((Ext.refl _).alloc (.cells #[.string ⟨#[97, 110, 110]⟩, .slice (some ⟨w.heap.size, 0, none⟩) 2 2, .string ⟨#[98, 101, 97]⟩, .slice (some ⟨w.heap.size + 1, 0, none⟩) 1 1, .string ⟨#[99, 101, 109]⟩, .slice (some ⟨w.heap.size + 1 + 1, 0, none⟩) 1 1] 28)))
  have hB := Blk.new (((w.alloc (.cells #[.int .i64 1, .int .i64 0] 3)).alloc (.cells #[.int .i64 0] 3)).alloc (.cells #[.int .i64 2] 3)) 28 #[.string ⟨#[97, 110, 110]⟩, .slice (some ⟨w.heap.size, 0, none⟩) 2 2, .string ⟨#[98, 101, 97]⟩, .slice (some ⟨w.heap.size + 1, 0, none⟩) 1 1, .string ⟨#[99, 101, 109]⟩, .slice (some ⟨w.heap.size + 1 + 1, 0, none⟩) 1 1]
  simp only [World.size_alloc] at hB h2 h3
  refine ⟨_, 3, rfl, by decide, by unfold maxLen; omega, fun j hj => ?_⟩
  match j, hj with
  | 0, _ => exact ⟨_, 0, _, rfl, hB.cell 0, hB.cell 1, h1, by show 3 ≤ maxLen; unfold maxLen; omega⟩
  | 1, _ => exact ⟨_, 0, _, rfl, hB.cell 2, hB.cell 3, h2, by show 3 ≤ maxLen; unfold maxLen; omega⟩
  | 2, _ => exact ⟨_, 0, _, rfl, hB.cell 4, hB.cell 5, h3, by show 3 ≤ maxLen; unfold maxLen; omega⟩

theorem three_at {w : World} {a : Nat} (h : RdW w (.slice (some ⟨a, 0, none⟩) 3 3) threeW) (j : Nat) (hj : j < threeW.length) :
    ∃ mv, w.cell? ⟨a, j * 2, none⟩ = some (.string threeW[j].name) ∧ w.cell? ⟨a, j * 2 + 1, none⟩ = some mv ∧ RdI w mv threeW[j].mach := by
  obtain ⟨A, cap, e, _, _, hc⟩ := h
  injection e with e1 e2 e3
  obtain ⟨b, o, mv, e4, h1, h2, h3, _⟩ := hc j hj
  rw [← e1] at e4
  injection e4 with e4
  injection e4 with e4 e5
  subst e4 e5
  rw [Nat.zero_add] at h1 h2
  exact ⟨mv, h1, h2, h3⟩

theorem ex_ask : askE threeW [0, 1, 0, 2] = 0 := by kernel_rfl
theorem ex_mat : mtL threeW [0, 1, 0, 2] = [0, -1, 1, 2] := by kernel_rfl
theorem ex_cov : cvL threeW [0, 1, 0, 2] = ([0, 1], [3]) := by kernel_rfl
theorem ex_ask8 : askE threeW [8] = 3 := by kernel_rfl
theorem ex_chk : chkW threeW = 0 := by kernel_rfl
theorem ex_chkA : chkW [⟨⟨#[65, 110, 110]⟩, []⟩] = 1 := by kernel_rfl

set_option maxHeartbeats 2000000 in
theorem c_alive (w : World) : Calls Try.prog 12 #[] w fun e w' => e = .returned (.bool true) ∧ Ext w w' := by
  go_enter Try.func12, Try.ntmps12
  go_wp2_with fail
  refine (c_three _).mono ?_
  rintro e w1 ⟨a1, rfl, hR1, hE1⟩
  replace hR1 := Lib.hid hR1
  replace hE1 := Lib.hid hE1
  go_wp2_with fail
  refine (c_matchAny _ _ threeW [0, 1, 0, 2] _ (hR1.out.ext ((Ext.refl _).alloc _)) (rdI_new _ _ [0, 1, 0, 2] _ rfl (by decide))).mono ?_
  rintro e w2 ⟨r2, rfl, hR2, _, hE2⟩
  rw [ex_mat] at hR2
  rw [ex_ask]
  replace hR2 := Lib.hid hR2
  replace hE2 := Lib.hid ((hE1.out.alloc _).trans hE2)
  clear hR1 hE1
  go_wp2_with fail
  refine (c_three _).mono ?_
  rintro e w3 ⟨a3, rfl, hR3, hE3⟩
  replace hR3 := Lib.hid hR3
  replace hR2 := Lib.hid (hR2.out.ext hE3)
  replace hE3 := Lib.hid (hE2.out.trans hE3)
  clear hE2
  go_wp2_with fail
  refine (c_coverAny _ _ threeW [0, 1, 0, 2] _ (hR3.out.ext ((Ext.refl _).alloc _)) (rdI_new _ _ [0, 1, 0, 2] _ rfl (by decide))).mono ?_
  rintro e w4 ⟨r4, s4, rfl, hR4, hS4, _, _, hE4⟩
  rw [ex_cov] at hR4 hS4
  rw [ex_ask]
  replace hR4 := Lib.hid hR4
  replace hS4 := Lib.hid hS4
  replace hR2 := Lib.hid ((hR2.out.ext ((Ext.refl _).alloc _)).ext hE4)
  replace hE4 := Lib.hid ((hE3.out.alloc _).trans hE4)
  clear hR3 hE3
  go_wp2_with fail
  refine (c_three _).mono ?_
  rintro e w5 ⟨a5, rfl, hR5, hE5⟩
  replace hR5 := Lib.hid hR5
  replace hR2 := Lib.hid (hR2.out.ext hE5)
  replace hR4 := Lib.hid (hR4.out.ext hE5)
  replace hS4 := Lib.hid (hS4.out.ext hE5)
  replace hE5 := Lib.hid (hE4.out.trans hE5)
  clear hE4
  go_wp2_with fail
  refine (c_matchAny _ _ threeW [8] _ (hR5.out.ext ((Ext.refl _).alloc _)) (rdI_new _ _ [8] _ rfl (by decide))).mono ?_
  rintro e w6 ⟨r6, rfl, hR6, _, hE6⟩
  rw [ex_ask8]
  replace hR2 := Lib.hid ((hR2.out.ext ((Ext.refl _).alloc _)).ext hE6)
  replace hR4 := Lib.hid ((hR4.out.ext ((Ext.refl _).alloc _)).ext hE6)
  replace hS4 := Lib.hid ((hS4.out.ext ((Ext.refl _).alloc _)).ext hE6)
  replace hE6 := Lib.hid ((hE5.out.alloc _).trans hE6)
  clear hR5 hE5 hR6
  go_wp2_with fail
  refine (c_same _ _ [0, -1, 1, 2] [0, -1, 1, 2] _ (hR2.out.ext ((Ext.refl _).alloc _)) (rdI_new _ _ [0, -1, 1, 2] _ rfl (by decide))).mono ?_
  rintro e w7 ⟨rfl, hE7⟩
  rw [show sameI [0, -1, 1, 2] [0, -1, 1, 2] = true by decide]
  replace hR4 := Lib.hid ((hR4.out.ext ((Ext.refl _).alloc _)).ext hE7)
  replace hS4 := Lib.hid ((hS4.out.ext ((Ext.refl _).alloc _)).ext hE7)
  replace hE7 := Lib.hid ((hE6.out.alloc _).trans hE7)
  clear hR2 hE6
  go_wp2_with fail
  refine (c_same _ _ [0, 1] [0, 1] _ (hR4.out.ext ((Ext.refl _).alloc _)) (rdI_new _ _ [0, 1] _ rfl (by decide))).mono ?_
  rintro e w8 ⟨rfl, hE8⟩
  rw [show sameI [0, 1] [0, 1] = true by decide]
  replace hS4 := Lib.hid ((hS4.out.ext ((Ext.refl _).alloc _)).ext hE8)
  replace hE8 := Lib.hid ((hE7.out.alloc _).trans hE8)
  clear hR4 hE7
  go_wp2_with fail
  refine (c_same _ _ [3] [3] _ (hS4.out.ext ((Ext.refl _).alloc _)) (rdI_new _ _ [3] _ rfl (by decide))).mono ?_
  rintro e w9 ⟨rfl, hE9⟩
  rw [show sameI [3] [3] = true by decide]
  replace hE9 := Lib.hid ((hE8.out.alloc _).trans hE9)
  clear hS4 hE8
  go_wp2_with fail
  refine (c_three _).mono ?_
  rintro e w10 ⟨a10, rfl, hR10, hE10⟩
  replace hR10 := Lib.hid hR10
  replace hE10 := Lib.hid (hE9.out.trans hE10)
  clear hE9
  go_wp2_with fail
  refine (c_skCheck _ threeW _ hR10.out).mono ?_
  rintro e w11 ⟨rfl, hE11⟩
  rw [ex_chk]
  replace hE11 := Lib.hid (hE10.out.trans hE11)
  clear hR10 hE10
  go_wp2_with fail
  have hA : RdW (w11.alloc (.cells #[.string ⟨#[65, 110, 110]⟩, .slice none 0 0] 28)) (.slice (some ⟨w11.heap.size, 0, none⟩) 1 1) [⟨⟨#[65, 110, 110]⟩, []⟩] := by
    have hB := Blk.new w11 28 #[.string ⟨#[65, 110, 110]⟩, .slice none 0 0]
    refine ⟨_, 1, rfl, by decide, by unfold maxLen; omega, fun j hj => ?_⟩
    match j, hj with
    | 0, _ => exact ⟨_, 0, _, rfl, hB.cell 0, hB.cell 1, RdI.nil _, by show 3 ≤ maxLen; unfold maxLen; omega⟩
  replace hA := Lib.hid hA
  refine (c_skCheck _ _ _ hA.out).mono ?_
  rintro e w12 ⟨rfl, hE12⟩
  rw [ex_chkA]
  replace hE12 := Lib.hid ((hE11.out.alloc _).trans hE12)
  clear hA hE11
  go_wp2_with fail
  refine (c_three _).mono ?_
  rintro e w13 ⟨a13, rfl, hR13, hE13⟩
  replace hE13 := Lib.hid (hE12.out.trans hE13)
  clear hE12
  obtain ⟨m13, hm0, hm1, hmr⟩ := three_at hR13 0 (by decide)
  replace hmr := Lib.hid hmr
  clear hR13
  go_wp2_with fail
  refine (c_can _ _ 1 [1, 0] _ hmr.out).mono ?_
  rintro e w14 ⟨rfl, hE14⟩
  rw [show memI 1 [1, 0] = true by decide]
  replace hE14 := Lib.hid (hE13.out.trans hE14)
  clear hmr hE13 hm0 hm1
  go_wp2_with fail
  refine (c_three _).mono ?_
  rintro e w15 ⟨a15, rfl, hR15, hE15⟩
  replace hE15 := Lib.hid (hE14.out.trans hE15)
  clear hE14
  obtain ⟨m15, hm0, hm1, hmr⟩ := three_at hR15 1 (by decide)
  replace hmr := Lib.hid hmr
  clear hR15
  go_wp2_with fail
  refine (c_can _ _ 1 [0] _ hmr.out).mono ?_
  rintro e w16 ⟨rfl, hE16⟩
  rw [show memI 1 [0] = false by decide]
  replace hE16 := Lib.hid (hE15.out.trans hE16)
  clear hmr hE15 hm0 hm1
  go_wp2_with fail
  go_ret
  exact ⟨rfl, hE16.out⟩
end Go.Proofs.Ythfcllefmeoicaa
