/- Contracts of checkNeeds and able. -/
import Derived.Test.YthfcllefmeoicaaCrew
import Derived.Test.YthfcllefmeoicaaChk
import Derived.Deep.RegionHeld3
import Derived.Deep.DrawnRows
namespace Go.Proofs.Ythfcllefmeoicaa
open Go.RowKit
attribute [local go_sem ↓] Go.wp_at_zero Go.wp_at_succ

/-- the error of workers and needs -/
def askE (ws : List Wk) (needs : List Int) : Int := if chkW ws = 0 then (if 16 < needs.length then 5 else if needs.all isM then 0 else 3) else chkW ws

set_option maxHeartbeats 400000 in
theorem c_checkNeeds (v u : Value) (ws : List Wk) (needs : List Int) (w : World) (h : RdW w v ws) (g : RdI w u needs) :
    Calls Try.prog 30 #[v, u] w fun e w' => e = .returned (.int .i64 (askE ws needs)) ∧ Ext w w' := by
  obtain ⟨A, cap, rfl, hcap, hmax, hc⟩ := g
  unfold maxLen at hmax
  have hh := Lib.hid h
  clear h
  by_cases hk : chkW ws = 0
  · have hE : (chkW ws != 0) = false := by simp [hk]
    have hk := Lib.hid hk
    by_cases h16 : 16 < needs.length
    · go_enter Try.func30, Try.ntmps30
      go_wp2_with (go_at_call 15; refine (c_skCheck _ _ _ hh.out).mono ?_; rintro e w1 ⟨rfl, he⟩; have he := Lib.hid he)
      go_ret
      exact ⟨ret_int (by simp [askE, hk.out, h16]), he.out⟩
    · have hd : decide (16 < (needs.length : Int)) = false := by simp; omega
      go_enter Try.func30, Try.ntmps30
      go_wp2_with (go_at_call 15; refine (c_skCheck _ _ _ hh.out).mono ?_; rintro e w1 ⟨rfl, he⟩)
      go_loop [18] (fun i => ∃ k : Nat, k ≤ needs.length ∧ i = .int .i64 k ∧ Hid ((needs.take k).all isM = true)) (fun i => needs.length - (intOf i).toNat)
      case atStart => exact ⟨0, Nat.zero_le _, rfl, Lib.hid (by simp)⟩
      case round =>
        obtain ⟨k, hk', rfl, HK⟩ := hrel
        by_cases hlt : k < needs.length
        · obtain ⟨b, o, rfl, hcell⟩ := hc k hlt
          have hcell := he.cell hcell
          cases hM : isM needs[k] with
          | true =>
            have he := Lib.hid he
            go_wp2_with (go_at_call 28; refine (c_isMachine _ _).mono ?_; rintro e w1 ⟨rfl, rfl⟩; rw [hM])
            go_round
            case rel => exact ⟨k + 1, by omega, by go_num, Lib.hid (by rw [take_snoc needs k hlt, List.all_append, HK.out]; simp [hM])⟩
            case measure => simp [intOf]; omega
          | false =>
            have he := Lib.hid he
            go_wp2_with (go_at_call 28; refine (c_isMachine _ _).mono ?_; rintro e w1 ⟨rfl, rfl⟩; rw [hM])
            go_ret
            refine ⟨ret_int ?_, he.out⟩
            have hno : needs.all isM = false := by
              rw [Bool.eq_false_iff]; intro ha; rw [List.all_eq_true] at ha
              have := ha needs[k] (List.getElem_mem hlt); rw [hM] at this; cases this
            simp only [askE, hk.out, if_true, if_neg h16, hno]; simp
        · have he := Lib.hid he
          go_wp2
          go_ret
          refine ⟨ret_int ?_, he.out⟩
          have hy : needs.all isM = true := by have := HK.out; rwa [List.take_of_length_le (by omega)] at this
          simp only [askE, hk.out, if_true, if_neg h16, hy]
  · have hE : (chkW ws != 0) = true := by simp [hk]
    go_enter Try.func30, Try.ntmps30
    go_wp2_with (go_at_call 15; refine (c_skCheck _ _ _ hh.out).mono ?_; rintro e w1 ⟨rfl, he⟩; have he := Lib.hid he)
    go_ret
    exact ⟨ret_int (by simp [askE, hk]), he.out⟩

theorem askE_ok {ws : List Wk} {needs : List Int} (h : askE ws needs = 0) : chkW ws = 0 ∧ ws.length ≤ 12 ∧ needs.length ≤ 16 ∧ ∀ m ∈ needs, isM m = true := by
  unfold askE at h
  by_cases h0 : chkW ws = 0
  · rw [if_pos h0] at h
    by_cases h1 : 16 < needs.length
    · rw [if_pos h1] at h; cases h
    · rw [if_neg h1] at h
      cases h2 : needs.all isM with
      | false => rw [h2] at h; simp at h
      | true =>
        refine ⟨h0, ?_, by omega, by simpa using h2⟩
        unfold chkW at h0
        by_cases h3 : 12 < ws.length
        · rw [if_pos h3] at h0; cases h0
        · omega
  · rw [if_neg h0] at h; exact absurd h h0

/-- n rows of twelve bools -/
def matA (n : Nat) (M : Nat → Nat → Bool) : Array Value := ((List.range (n * 12)).map fun i => Value.bool (M (i / 12) (i % 12))).toArray
def upd2 (M : Nat → Nat → Bool) (k j : Nat) (b : Bool) : Nat → Nat → Bool := fun x y => if x = k ∧ y = j then b else M x y
theorem matA_size (n : Nat) (M : Nat → Nat → Bool) : (matA n M).size = n * 12 := by simp [matA]
theorem matA_get (n : Nat) (M : Nat → Nat → Bool) (k j : Nat) (hk : k < n) (hj : j < 12) : (matA n M)[k * 12 + j]? = some (.bool (M k j)) := by
  have h : k * 12 + j < n * 12 := by omega
  have h1 : (k * 12 + j) / 12 = k := by omega
  have h2 : (k * 12 + j) % 12 = j := by omega
  simp [matA, h, h1, h2]
theorem matA_set (n : Nat) (M : Nat → Nat → Bool) (k j : Nat) (b : Bool) (hj : j < 12) : (matA n M).setIfInBounds (k * 12 + j) (.bool b) = matA n (upd2 M k j b) := by
  apply Array.ext
  · simp [matA_size]
  · intro i h1 h2
    by_cases hk : k * 12 + j = i
    · subst hk
      have h1 : (k * 12 + j) / 12 = k := by omega
      have h2 : (k * 12 + j) % 12 = j := by omega
      simp [matA, upd2, h1, h2]
    · have : ¬ (i / 12 = k ∧ i % 12 = j) := by omega
      simp [matA, upd2, hk, this]

theorem info58' : (Try.prog.info? 58).map (fun i => (i.zero, i.size, i.bytes)) = some (some (.agg (crewA fun _ => false)), 12, 12) := by kernel_rfl

theorem made_mat (n : Nat) : madeCells (crewA fun _ => false) (n * 12) = matA n (fun _ _ => false) := by
  apply Array.ext
  · simp [size_madeCells, matA_size]
  · intro i h1 h2
    have hi : i % 12 < 12 := Nat.mod_lt _ (by decide)
    have hg := crewA_get (fun _ => false) (i % 12) hi
    simp only [madeCells, matA, crewA_size, Array.getElem_map, Array.getElem_range, List.getElem_toArray, List.getElem_map]
    rw [getElem!_pos _ _ (by rw [crewA_size]; exact hi)]
    rw [Array.getElem?_eq_getElem (by rw [crewA_size]; exact hi)] at hg
    exact Option.some.inj hg

theorem make_mat (n : Nat) (hn : n ≤ 1000000) (w : World) : (Instr.makeSlice 55 (.int .i64 n) (.int .i64 n)).run Try.prog w = .ok (.slice (some ⟨w.heap.size, 0, none⟩) n n) (w.alloc (.cells (matA n fun _ _ => false) 58)) := by
  obtain ⟨i, hi, hz, hs, hb⟩ := info_parts info58'
  have hr := run_make (P := Try.prog) w 55 58 i _ Try.underlying55 hi hz .i64 .i64 n n (by omega) (by omega) (by rw [hb]; omega) (by omega)
  rw [hr, hs]
  simp only [Int.toNat_natCast, Value.cells, made_mat]

/-- The slice value v reads as the sets cs. -/
def RdC (w : World) (v : Value) (cs : List (Nat → Bool)) : Prop :=
  ∃ A cap, v = .slice A cs.length cap ∧ cs.length ≤ cap ∧ cap ≤ maxLen ∧ ∀ j (h : j < cs.length), ∃ b o, A = some ⟨b, o, none⟩ ∧ w.rangeAt b (o + j * 12) (crewL cs[j])
theorem RdC.ext {w w' : World} {v : Value} {cs : List (Nat → Bool)} (h : RdC w v cs) (he : Ext w w') : RdC w' v cs := by
  obtain ⟨A, cap, rfl, h1, h2, h3⟩ := h
  refine ⟨A, cap, rfl, h1, h2, fun j hj => ?_⟩
  obtain ⟨b, o, rfl, hc⟩ := h3 j hj
  exact ⟨b, o, rfl, fun i v hv => he.cell (hc i v hv)⟩

/-- worker i can use machine m -/
def ableB (ws : List Wk) (m : Int) (i : Nat) : Bool := match ws[i]? with | some x => memI m x.mach | none => false
theorem ableB_at {ws : List Wk} {m : Int} {i : Nat} (h : i < ws.length) : ableB ws m i = memI m ws[i].mach := by simp [ableB, h]
theorem ableB_out {ws : List Wk} {m : Int} {i : Nat} (h : ws.length ≤ i) : ableB ws m i = false := by simp [ableB, h]
/-- the sets of those who can fill each need -/
def setsW (ws : List Wk) (needs : List Int) : List (Nat → Bool) := needs.map (ableB ws)

/-- what able has laid after k needs and, of need k, j workers -/
def partM (ws : List Wk) (needs : List Int) (k j : Nat) : Nat → Nat → Bool := fun x y => (decide (x < k) || (decide (x = k) && decide (y < j))) && (match needs[x]? with | some m => ableB ws m y | none => false)

theorem partM_zero (ws : List Wk) (needs : List Int) : partM ws needs 0 0 = fun _ _ => false := by funext x y; simp [partM]
theorem partM_step (ws : List Wk) (needs : List Int) (k j : Nat) (hk : k < needs.length) : upd2 (partM ws needs k j) k j (ableB ws needs[k] j) = partM ws needs k (j + 1) := by
  funext x y
  unfold upd2 partM
  by_cases hx : x = k
  · subst hx
    by_cases hy : y = j
    · subst hy; simp [hk]
    · have : decide (y < j + 1) = decide (y < j) := by rw [decide_eq_decide]; omega
      simp [hy, this]
  · simp [hx]
theorem partM_row (ws : List Wk) (needs : List Int) (k : Nat) (_h12 : ws.length ≤ 12) (n : Nat) : matA n (partM ws needs k ws.length) = matA n (partM ws needs (k + 1) 0) := by
  unfold matA
  congr 1
  apply List.map_congr_left
  intro i hi
  congr 1
  unfold partM
  by_cases hx : i / 12 = k
  · by_cases hy : i % 12 < ws.length
    · simp [hx, hy]
    · have hb : ∀ m, ableB ws m (i % 12) = false := fun m => ableB_out (by omega)
      simp [hx, hb]; cases needs[k]? <;> simp
  · have : decide (i / 12 < k + 1) = decide (i / 12 < k) := by rw [decide_eq_decide]; omega
    simp [hx, this]
theorem partM_end (ws : List Wk) (needs : List Int) : matA needs.length (partM ws needs needs.length 0) = matA needs.length (fun x y => (match needs[x]? with | some m => ableB ws m y | none => false)) := by
  unfold matA
  congr 1
  apply List.map_congr_left
  intro i hi
  congr 1
  have : i / 12 < needs.length := by simp at hi; omega
  simp [partM, this]

theorem rdC_of {w : World} {g : Nat} {t : TypeId} {n : Nat} {M : Nat → Nat → Bool} {cs : List (Nat → Bool)} (h : Blk w g t (matA n M)) (hn : cs.length = n) (hm : n ≤ maxLen) (hM : ∀ k (hk : k < cs.length) j, j < 12 → M k j = cs[k] j) :
    RdC w (.slice (some ⟨g, 0, none⟩) n n) cs := by
  refine ⟨_, n, by rw [hn], by omega, hm, fun j hj => ⟨g, 0, rfl, fun i v hv => ?_⟩⟩
  have hi : i < 12 := by
    have := (List.getElem?_eq_some_iff.1 hv).1
    rwa [crewL_length] at this
  rw [crewL_get _ _ hi] at hv
  rw [Nat.zero_add, h.cell, matA_get n M j i (by omega) hi, hM j hj i hi]
  exact hv
end Go.Proofs.Ythfcllefmeoicaa
