/- SkillSpare walked. -/
import Derived.Test.YthfcllefmeoicaaSAb
namespace Go.Proofs.Ythfcllefmeoicaa
open Go.RowKit
attribute [local go_sem ↓] Go.wp_at_zero Go.wp_at_succ

theorem mtL_spare {ws : List Wk} {needs : List Int} (h : askE ws needs = 0) (k : Nat) (hk : k < needs.length) (i : Nat) (hi : i < ws.length) (hl : k < (mtL ws needs).length) (hm : (mtL ws needs)[k] = -1) (hno : memI (i : Int) (mtL ws needs) = false) :
    memI needs[k] ws[i].mach = false := by
  have e : mtL ws needs = matL (setsW ws needs) := by unfold mtL; rw [if_pos h]
  obtain ⟨_, h12, _, _⟩ := askE_ok h
  have hk' : k < (matL (setsW ws needs)).length := by rw [← e]; exact hl
  have hg : (mtL ws needs)[k] = (matL (setsW ws needs))[k] := by simp only [e]
  have := matL_spare (setsW ws needs) k hk' (hg.symm.trans hm) i (by omega) (by rw [← e]; exact (memI_false _ _).1 hno)
  rwa [able_at hk hi] at this

theorem quiet_same {P : Program} {f : FuncId} {args : Array Value} {w : World} {n : Nat} {v : Value} (h : Calls P f args (w.drewN n) fun e w' => e = .returned v ∧ w.drewN n = w') :
    Calls P f args (w.drewN n) fun e w'' => e = .returned v ∧ ∃ m, w'' = w.drewN m := h.mono fun _ _ ⟨he, hm⟩ => ⟨he, n, hm.symm⟩

set_option maxRecDepth 100000 in
set_option maxHeartbeats 2000000 in
theorem w_spare (v u : Value) (ws : List Wk) (needs : List Int) (w : World) (h : RdW w v ws) (g : RdI w u needs) :
    Calls Try.prog 9 #[v, u] w fun e w' => e = .returned (.bool true) ∧ Ext w w' := by
  have hh := Lib.hid h
  have gg := Lib.hid g
  obtain ⟨A, cap, rfl, hcap, hmax, hc⟩ := h
  obtain ⟨B, capB, rfl, hcapB, hmaxB, hd⟩ := g
  unfold maxLen at hmax hmaxB
  replace hc := Lib.hid hc
  replace hd := Lib.hid hd
  cases hL : lightB ws needs.length with
  | false =>
    go_enter Try.func9, Try.ntmps9
    go_wp2_with fail
    refine (c_light _ _ ws needs _ hh.out gg.out).mono ?_
    rintro e w1 ⟨rfl, rfl⟩
    rw [hL]
    go_wp2_with fail
    refine (c_alive _).mono ?_
    rintro e w1 ⟨rfl, he⟩
    replace he := Lib.hid he
    go_wp2_with fail
    go_ret
    exact ⟨rfl, he.out⟩
  | true =>
    go_enter Try.func9, Try.ntmps9
    go_wp2_with fail
    refine (c_light _ _ ws needs _ hh.out gg.out).mono ?_
    rintro e w1 ⟨rfl, rfl⟩
    rw [hL]
    go_wp2_with fail
    refine (c_matchAny _ _ ws needs _ hh.out gg.out).mono ?_
    rintro e w1 ⟨r, rfl, hR, hF, hE⟩
    obtain ⟨Ar, capr, rfl, hcr, hmr, hcellr⟩ := hR
    unfold maxLen at hmr
    have hRR := Lib.hid (show RdI w1 (.slice Ar (mtL ws needs).length capr) (mtL ws needs) from ⟨Ar, capr, rfl, hcr, by unfold maxLen; omega, hcellr⟩)
    replace hcellr := Lib.hid hcellr
    replace hE := Lib.hid hE
    by_cases h0 : askE ws needs = 0
    · have hE0 : (askE ws needs != 0) = false := by simp [h0]
      have hlen := mtL_len h0
      have hat := Lib.hid (mtL_at h0)
      have hsp := Lib.hid (mtL_spare h0)
      have hlen' : (((mtL ws needs).length : Int) != (needs.length : Int)) = false := by simp; omega
      have hle : (mtL ws needs).length ≤ needs.length := by omega
      replace hlen := Lib.hid hlen
      clear h0
      generalize mtL ws needs = R at *
      go_wp2_with fail
      clear hE0 hlen'
      go_loopw [7, 8] (fun i u8 wr => ∃ k : Nat, k ≤ R.length ∧ i = .int .i64 k ∧ Ext w1 wr) (fun i _ _ => R.length - (intOf i).toNat)
      case atStart => exact ⟨0, Nat.zero_le _, rfl, Ext.refl _⟩
      case round =>
        obtain ⟨k, hk, rfl, hext⟩ := hrel
        replace hext := Lib.hid hext
        by_cases hlt : k < R.length
        · obtain ⟨b, o, rfl, hcell⟩ := hcellr.out k hlt
          replace hcell := Lib.hid hcell
          obtain ⟨wo, rfl⟩ : ∃ wo : World, wo = wr := ⟨_, rfl⟩
          go_wp2_with fail
          go_loopw [8] (fun i wr => ∃ j : Nat, j ≤ ws.length ∧ i = .int .i64 j ∧ Ext w1 wr) (fun i _ => ws.length - (intOf i).toNat)
          case atStart => exact ⟨0, Nat.zero_le _, rfl, hext.out⟩
          case round =>
            obtain ⟨j, hj, rfl, hext⟩ := hrel
            replace hext := Lib.hid hext
            by_cases hjl : j < ws.length
            · have hb1 : b < wr.heap.size := World.block_lt_of_cell? wr _ (hext.out.cell hcell.out)
              have hcell' := hext.out.cell hcell.out
              have hN : wr.heap.size ≤ wr.heap.size := Nat.le_refl _
              have i0 : (0 : Int) ≤ (k : Int) := by omega
              have i1 : (k : Int) < (R.length : Int) := by omega
              have i2 : (0 : Int) ≤ (j : Int) := by omega
              have i3 : (j : Int) < (ws.length : Int) := by omega
              rcases hat.out k hlt with hm1 | ⟨i, hn, hi, hmi, hcan, hmem⟩
              · rw [hm1] at hcell'
                have hRj := Lib.hid (hRR.out.ext hext.out)
                have d1 : decide ((-1 : Int) < 0) = true := by decide
                cases hmj : memI (j : Int) R with
                | true =>
                  have hq := Lib.hid (show ∀ n, Calls Try.prog 23 #[.slice (some ⟨b, o, none⟩) R.length capr, .int .i64 j] (wr.drewN n) (fun e w' => e = .returned (.bool true) ∧ wr.drewN n = w') from fun n => by
                    have hcl := c_among _ j R _ (hRj.out.ext ((Ext.refl wr).drewN n))
                    rw [hmj] at hcl
                    exact hcl)
                  replace hmj := Lib.hid hmj
                  clear hm1
                  go_wp2_with fail
                  go_quiet ((go_at_call 23; exact quiet_same (hq.out _)))
                  go_wp2_with fail
                  go_roundw
                  case rel => exact ⟨j + 1, by omega, by go_num, hext.out.drewN _⟩
                  case measure => simp [intOf]; omega
                | false =>
                  have hn : k < needs.length := by omega
                  have hcan := Lib.hid (hsp.out k hn j hjl hlt hm1 hmj)
                  replace hmj := Lib.hid hmj
                  clear hm1
                  obtain ⟨b2, o2, mv, rfl, hwn, hwm, hwr, _⟩ := hc.out j hjl
                  obtain ⟨b3, o3, rfl, hcn⟩ := hd.out k hn
                  have hXw := Lib.hid (hE.out.trans hext.out)
                  replace hwn := hXw.out.cell hwn
                  replace hwm := hXw.out.cell hwm
                  replace hcn := hXw.out.cell hcn
                  have hb2 : b2 < wr.heap.size := World.block_lt_of_cell? wr _ hwn
                  have hb3 : b3 < wr.heap.size := World.block_lt_of_cell? wr _ hcn
                  have hrr := Lib.hid (hwr.ext hXw.out)
                  have i4 : (k : Int) < (needs.length : Int) := by omega
                  clear hwr
                  go_wp2_with fail
                  go_region_held3 (fun w' => (∀ b o, b < wr.heap.size → w'.cell? ⟨b, o, none⟩ = wr.cell? ⟨b, o, none⟩) ∧ Kp wr.heap.size wr w')
                    (first
                      | exact (Kp.start hN).drew.both
                      | (go_split_ands; exact ((by assumption : Kp _ _ _).call he).both)
                      | assumption)
                    (first
                      | (go_at_call 13; go_split_ands; have hcl := c_can ws[j].name _ needs[k] ws[j].mach _ (hrr.out.ext ((by assumption : Kp _ _ _).ext (Ext.refl _) (Nat.le_refl _))); rw [hcan.out] at hcl; refine hcl.mono ?_; rintro e w2 ⟨rfl, he⟩; clear hcl)
                      | (go_at_call 23; go_split_ands; have hcl := c_among _ j R _ (hRj.out.ext ((by assumption : Kp _ _ _).ext (Ext.refl _) (Nat.le_refl _))); rw [hmj.out] at hcl; refine hcl.mono ?_; rintro e w3 ⟨rfl, rfl⟩; clear hcl))
                  go_wp2_with fail
                  go_roundw
                  case rel => exact ⟨j + 1, by omega, by go_num, hext.out.drew.trans he⟩
                  case measure => simp [intOf]; omega
              · rw [hmi] at hcell'
                have d1 : decide ((i : Int) < 0) = false := decide_eq_false (by omega)
                clear hmi hcan hmem
                go_wp2_with fail
                go_quiet (fail)
                go_wp2_with fail
                go_roundw
                case rel => exact ⟨j + 1, by omega, by go_num, hext.out.drewN _⟩
                case measure => simp [intOf]; omega
            · go_wp2_with fail
              go_roundw
              case rel => exact ⟨k + 1, by omega, by go_num, hext.out⟩
              case measure => simp [intOf]; omega
        · go_wp2_with fail
          refine (c_alive _).mono ?_
          rintro e w3 ⟨rfl, he⟩
          replace he := Lib.hid he
          go_wp2_with fail
          go_ret
          exact ⟨rfl, (hE.out.trans hext.out).trans he.out⟩
    · have hE0 : (askE ws needs != 0) = true := by simp [h0]
      clear h0
      go_wp2_with fail
      refine (c_alive _).mono ?_
      rintro e w2 ⟨rfl, he⟩
      replace he := Lib.hid he
      go_wp2_with fail
      go_ret
      exact ⟨rfl, hE.out.trans he.out⟩
end Go.Proofs.Ythfcllefmeoicaa
