/- SkillAble walked. -/
import Derived.Test.YthfcllefmeoicaaAli
namespace Go.Proofs.Ythfcllefmeoicaa
open Go.RowKit
attribute [local go_sem ↓] Go.wp_at_zero Go.wp_at_succ

theorem able_of {ws : List Wk} {needs : List Int} {k i : Nat} (h : csAt (setsW ws needs) k i = true) : ∃ (hk : k < needs.length) (hi : i < ws.length), memI needs[k] ws[i].mach = true := by
  unfold csAt setsW at h
  rw [List.getElem?_map] at h
  rcases Nat.lt_or_ge k needs.length with hk | hk
  · rw [List.getElem?_eq_getElem hk] at h
    simp only [Option.map_some] at h
    rcases Nat.lt_or_ge i ws.length with hi | hi
    · rw [ableB_at hi] at h; exact ⟨hk, hi, h⟩
    · rw [ableB_out hi] at h; cases h
  · rw [List.getElem?_eq_none hk] at h; cases h
theorem able_at {ws : List Wk} {needs : List Int} {k i : Nat} (hk : k < needs.length) (hi : i < ws.length) : csAt (setsW ws needs) k i = memI needs[k] ws[i].mach := by
  unfold csAt setsW
  rw [List.getElem?_map, List.getElem?_eq_getElem hk]
  simp only [Option.map_some]
  exact ableB_at hi
theorem setsW_len (ws : List Wk) (needs : List Int) : (setsW ws needs).length = needs.length := by simp [setsW]
theorem mtL_len {ws : List Wk} {needs : List Int} (h : askE ws needs = 0) : (mtL ws needs).length = needs.length := by
  unfold mtL; rw [if_pos h, matL_len, setsW_len]
theorem mtL_at {ws : List Wk} {needs : List Int} (h : askE ws needs = 0) (k : Nat) (hk : k < (mtL ws needs).length) :
    (mtL ws needs)[k] = -1 ∨ ∃ (i : Nat) (hn : k < needs.length) (hi : i < ws.length), (mtL ws needs)[k] = i ∧ memI needs[k] ws[i].mach = true ∧ memI (i : Int) ((mtL ws needs).take k) = false := by
  have e : mtL ws needs = matL (setsW ws needs) := by unfold mtL; rw [if_pos h]
  have hk' : k < (matL (setsW ws needs)).length := by rw [← e]; exact hk
  have hg : (mtL ws needs)[k] = (matL (setsW ws needs))[k] := by simp only [e]
  rcases matL_at (setsW ws needs) k hk' with h1 | ⟨i, _, h2, h3, h4⟩
  · exact .inl (hg.trans h1)
  · obtain ⟨a, b, c⟩ := able_of h3
    refine .inr ⟨i, a, b, hg.trans h2, c, ?_⟩
    rw [memI_false, e, ← h2]; exact h4

set_option maxRecDepth 100000 in
set_option maxHeartbeats 800000 in
theorem w_able (v u : Value) (ws : List Wk) (needs : List Int) (w : World) (h : RdW w v ws) (g : RdI w u needs) :
    Calls Try.prog 7 #[v, u] w fun e w' => e = .returned (.bool true) ∧ Ext w w' := by
  have hh := Lib.hid h
  have gg := Lib.hid g
  obtain ⟨A, cap, rfl, hcap, hmax, hc⟩ := h
  obtain ⟨B, capB, rfl, hcapB, hmaxB, hd⟩ := g
  unfold maxLen at hmax hmaxB
  replace hc := Lib.hid hc
  replace hd := Lib.hid hd
  cases hL : lightB ws needs.length with
  | false =>
    go_enter Try.func7, Try.ntmps7
    go_wp2_with fail
    refine (c_light _ _ ws needs _ hh.out gg.out).mono ?_
    rintro e w1 ⟨rfl, rfl⟩
    rw [hL]
    go_wp2_with fail
    refine (c_alive _).mono ?_
    rintro e w1 ⟨rfl, he⟩
    replace he := Lib.hid he
    go_wp2_with fail
    go_ret
    exact ⟨rfl, he.out⟩
  | true =>
    go_enter Try.func7, Try.ntmps7
    go_wp2_with fail
    refine (c_light _ _ ws needs _ hh.out gg.out).mono ?_
    rintro e w1 ⟨rfl, rfl⟩
    rw [hL]
    go_wp2_with fail
    refine (c_matchAny _ _ ws needs _ hh.out gg.out).mono ?_
    rintro e w1 ⟨r, rfl, hR, hF, hE⟩
    obtain ⟨Ar, capr, rfl, hcr, hmr, hcellr⟩ := hR
    unfold maxLen at hmr
    have hRR := Lib.hid (show RdI w1 (.slice Ar (mtL ws needs).length capr) (mtL ws needs) from ⟨Ar, capr, rfl, hcr, by unfold maxLen; omega, hcellr⟩)
    replace hcellr := Lib.hid hcellr
    replace hE := Lib.hid hE
    by_cases h0 : askE ws needs = 0
    · have hE0 : (askE ws needs != 0) = false := by simp [h0]
      have hlen := mtL_len h0
      have hat := Lib.hid (mtL_at h0)
      have hlen' : (((mtL ws needs).length : Int) != (needs.length : Int)) = false := by simp; omega
      replace hlen := Lib.hid hlen
      clear h0
      generalize mtL ws needs = R at *
      go_wp2_with fail
      clear hE0 hlen'
      go_loopw [7] (fun i wr => ∃ k : Nat, k ≤ R.length ∧ i = .int .i64 k ∧ Ext w1 wr) (fun i _ => R.length - (intOf i).toNat)
      case atStart => exact ⟨0, Nat.zero_le _, rfl, Ext.refl _⟩
      case round =>
        obtain ⟨k, hk, rfl, hext⟩ := hrel
        replace hext := Lib.hid hext
        by_cases hlt : k < R.length
        · obtain ⟨b, o, rfl, hcell⟩ := hcellr.out k hlt
          have hb1 : b < wr.heap.size := World.block_lt_of_cell? wr _ (hext.out.cell hcell)
          replace hcell := hext.out.cell hcell
          have hN : wr.heap.size ≤ wr.heap.size := Nat.le_refl _
          have i0 : (0 : Int) ≤ (k : Int) := by omega
          have i1 : (k : Int) < (R.length : Int) := by omega
          rcases hat.out k hlt with hm1 | ⟨i, hn, hi, hmi, hcan, hmem⟩
          · rw [hm1] at hcell
            have d1 : decide ((-1 : Int) < -1) = false := by decide
            have d2 : decide ((ws.length : Int) ≤ -1) = false := by simp; omega
            have d3 : decide ((0 : Int) ≤ -1) = false := by decide
            clear hm1
            go_wp2_with fail
            go_quiet (fail)
            go_wp2_with fail
            go_roundw
            case rel => exact ⟨k + 1, by omega, by go_num, hext.out.drewN _⟩
            case measure => simp [intOf]; omega
          · rw [hmi] at hcell
            obtain ⟨b2, o2, mv, rfl, hwn, hwm, hwr, _⟩ := hc.out i hi
            obtain ⟨b3, o3, rfl, hcn⟩ := hd.out k hn
            have hXw := Lib.hid (hE.out.trans hext.out)
            replace hwn := hXw.out.cell hwn
            replace hwm := hXw.out.cell hwm
            replace hcn := hXw.out.cell hcn
            have hb2 : b2 < wr.heap.size := World.block_lt_of_cell? wr _ hwn
            have hb3 : b3 < wr.heap.size := World.block_lt_of_cell? wr _ hcn
            have hrr := Lib.hid (hwr.ext hXw.out)
            have hRk := Lib.hid (show RdI wr (.slice (some ⟨b, o, none⟩) k capr) (R.take k) from by
              obtain ⟨A', c', e1, e2, e3, e4⟩ := hRR.out.ext hext.out
              injection e1 with e5 e6 e7
              subst e5 e7
              refine ⟨_, capr, by rw [List.length_take, Nat.min_eq_left hk], by rw [List.length_take]; omega, e3, fun j hj => ?_⟩
              rw [List.length_take] at hj
              obtain ⟨b', o', e8, e9⟩ := e4 j (by omega)
              exact ⟨b', o', e8, by rw [List.getElem_take]; exact e9⟩)
            have d1 : decide ((i : Int) < -1) = false := decide_eq_false (by omega)
            have d2 : decide ((ws.length : Int) ≤ (i : Int)) = false := decide_eq_false (by omega)
            have d2' : decide (ws.length ≤ i) = false := by simp; omega
            have d3 : decide ((0 : Int) ≤ (i : Int)) = true := by simp
            have i2 : (0 : Int) ≤ (i : Int) := by omega
            have i3 : (i : Int) < (ws.length : Int) := by omega
            have i4 : (k : Int) < (needs.length : Int) := by omega
            have i5 : (k : Int) ≤ (capr : Int) := by omega
            replace hcan := Lib.hid hcan
            replace hmem := Lib.hid hmem
            clear hmi hwr
            go_wp2_with fail
            go_region_held3 (fun w' => (∀ b o, b < wr.heap.size → w'.cell? ⟨b, o, none⟩ = wr.cell? ⟨b, o, none⟩) ∧ Kp wr.heap.size wr w')
              (first
                | exact (Kp.start hN).drew.both
                | (go_split_ands; exact ((by assumption : Kp _ _ _).call he).both)
                | assumption)
              (first
                | (go_at_call 13; go_split_ands; have hcl := c_can ws[i].name _ needs[k] ws[i].mach _ (hrr.out.ext ((by assumption : Kp _ _ _).ext (Ext.refl _) (Nat.le_refl _))); rw [hcan.out] at hcl; refine hcl.mono ?_; rintro e w2 ⟨rfl, he⟩; clear hcl)
                | (go_at_call 23; go_split_ands; have hcl := c_among _ i (R.take k) _ (hRk.out.ext ((by assumption : Kp _ _ _).ext (Ext.refl _) (Nat.le_refl _))); rw [hmem.out] at hcl; refine hcl.mono ?_; rintro e w3 ⟨rfl, rfl⟩; clear hcl))
            go_wp2_with fail
            go_roundw
            case rel => exact ⟨k + 1, by omega, by go_num, hext.out.drew.trans he⟩
            case measure => simp [intOf]; omega
        · go_wp2_with fail
          refine (c_alive _).mono ?_
          rintro e w3 ⟨rfl, he⟩
          replace he := Lib.hid he
          go_wp2_with fail
          go_ret
          exact ⟨rfl, (hE.out.trans hext.out).trans he.out⟩
    · have hE0 : (askE ws needs != 0) = true := by simp [h0]
      have hnil : (mtL ws needs).length = 0 := by unfold mtL; rw [if_neg h0]; rfl
      rw [hnil] at *
      clear hnil h0
      go_wp2_with fail
      refine (c_alive _).mono ?_
      rintro e w2 ⟨rfl, he⟩
      replace he := Lib.hid he
      go_wp2_with fail
      go_ret
      exact ⟨rfl, hE.out.trans he.out⟩
end Go.Proofs.Ythfcllefmeoicaa
