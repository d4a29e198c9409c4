/- Contract of largest. -/
import Derived.Test.YthfcllefmeoicaaFill
namespace Go.Proofs.Ythfcllefmeoicaa
open Go.RowKit

theorem setCells_two (g : Nat) : ∀ (vs : List Value) (o : Nat) (w : World), Two g g w (w.setCells g o vs)
  | [], _, _w => Two.refl _ _ _
  | v :: r, o, w => ((Two.refl g g w).set (p := ⟨g, o, none⟩) (Or.inl rfl) v).trans (setCells_two g r (o + 1) _)

theorem setCells_blk {g : Nat} {t : TypeId} : ∀ (vs : List Value) (o : Nat) (w : World) (cs : Array Value), Blk w g t cs → o + vs.length ≤ cs.size →
    ∃ ds, Blk (w.setCells g o vs) g t ds ∧ ds.size = cs.size ∧ (∀ i, i < o ∨ o + vs.length ≤ i → ds[i]? = cs[i]?) ∧ ∀ j (h : j < vs.length), ds[o + j]? = some vs[j]
  | [], _, w, cs, h, _ => ⟨cs, h, rfl, fun _ _ => rfl, fun j hj => absurd hj (by simp)⟩
  | v :: r, o, w, cs, h, hl => by
    simp only [List.length_cons] at hl
    obtain ⟨ds, h1, h2, h3, h4⟩ := setCells_blk r (o + 1) (w.setCell ⟨g, o, none⟩ v) _ (h.set_ o v) (by simp; omega)
    refine ⟨ds, h1, by simpa using h2, fun i hi => ?_, fun j hj => ?_⟩
    · simp only [List.length_cons] at hi
      rw [h3 i (by omega), Array.getElem?_setIfInBounds_ne (by omega)]
    · rcases j with _ | j
      · rw [Nat.add_zero, h3 o (by omega), Array.getElem?_setIfInBounds_self_of_lt (by omega)]; rfl
      · have := h4 j (by simpa using hj)
        rw [show o + (j + 1) = o + 1 + j by omega, this]; rfl

theorem setCells_all {g : Nat} {t : TypeId} {w : World} {cs : Array Value} (h : Blk w g t cs) (vs : List Value) (hs : cs.size = vs.length) : Blk (w.setCells g 0 vs) g t vs.toArray := by
  obtain ⟨ds, h1, h2, _, h4⟩ := setCells_blk vs 0 w cs h (by omega)
  have : ds = vs.toArray := by
    apply Array.ext
    · simp; omega
    · intro i hi1 hi2
      have := h4 i (by simpa using hi2)
      rw [Nat.zero_add, Array.getElem?_eq_getElem hi1] at this
      simpa using Option.some.inj this
  rw [← this]; exact h1

theorem there_blk {g : Nat} {t : TypeId} {w : World} {cs : Array Value} (h : Blk w g t cs) (n : Nat) (hn : n ≤ cs.size) : w.there g 0 n := fun j hj => by
  rw [Nat.zero_add, h.cell]
  exact ⟨by simp; omega, h.frozen j⟩

/-- the array 'work' while it is laid -/
def initF (j : Nat) : Nat → Int := fun i => if i < j then -1 else 0
theorem initF_step (j : Nat) : upd (initF j) j (-1) = initF (j + 1) := by
  funext i
  unfold upd initF
  by_cases h : i = j
  · subst h; simp
  · have : decide (i < j + 1) = decide (i < j) := by rw [decide_eq_decide]; omega
    simp only [h, if_false]
    by_cases h2 : i < j
    · rw [if_pos h2, if_pos (by omega)]
    · rw [if_neg h2, if_neg (by omega)]
theorem initF_end : workA (initF 12) = workA (fun _ => -1) := rfl
theorem workA_zero : workA (initF 0) = #[.int .i64 0, .int .i64 0, .int .i64 0, .int .i64 0, .int .i64 0, .int .i64 0, .int .i64 0, .int .i64 0, .int .i64 0, .int .i64 0, .int .i64 0, .int .i64 0] := rfl

theorem RdC.und {w : World} {v : Value} {cs : List (Nat → Bool)} (h : RdC w v cs) (hn : 0 < cs.length) : Und w.heap.size v := by
  obtain ⟨A, cap, rfl, _, _, hc⟩ := h
  obtain ⟨b, o, rfl, hr⟩ := hc 0 hn
  have := World.block_lt_of_cell? w _ (hr 0 _ (crewL_get _ 0 (by omega)))
  intro a n c e
  injection e with e
  injection e with e
  subst e
  exact this

set_option maxRecDepth 100000 in
set_option maxHeartbeats 2000000 in
theorem c_largest (v : Value) (cs : List (Nat → Bool)) (bz : Nat → Bool) (w : World) (h : RdC w v cs) (hcs : cs.length ≤ 1000) :
    Calls Try.prog 32 #[v, .agg (crewA bz)] w fun e w' => e = .returned (.int .i64 (larg cs bz : Nat)) ∧ Ext w w' := by
  have HR := Lib.hid h
  obtain ⟨A, cap, rfl, hcap, hmax, hc⟩ := h
  unfold maxLen at hmax
  clear hc
  go_enter Try.func32, Try.ntmps32
  go_wp2
  go_loopw [10] (fun i wr => ∃ j : Nat, j ≤ 12 ∧ i = .int .i64 j ∧ Blk wr w.heap.size 58 (crewA bz) ∧ Blk wr (w.heap.size + 1) 73 (workA (initF j)) ∧ Ext w wr) (fun i _ => 12 - (intOf i).toNat)
  case atStart =>
    refine ⟨0, by omega, rfl, (Blk.new w 58 (crewA bz)).alloc _, ?_, ((Ext.refl _).alloc _).alloc _⟩
    have hb := Blk.new (w.alloc (.cells (crewA bz) 58)) 73 (workA (initF 0))
    simp only [World.size_alloc] at hb
    rw [workA_zero] at hb ⊢
    exact hb
  case round =>
    obtain ⟨j, hj, rfl, hB0, hB1, hext⟩ := hrel
    have HB0 := Lib.hid hB0
    have HB1 := Lib.hid hB1
    have HX := Lib.hid hext
    by_cases hlt : j < 12
    · have hc0 := hB1.cell j
      rw [workA_get _ _ hlt] at hc0
      have hf0 := hB1.frozen j
      clear hB0 hB1 hext
      go_wp2
      go_roundw
      case rel => exact ⟨j + 1, by omega, by go_num, HB0.out.far (by simp) _, by rw [← initF_step, ← workA_set]; exact HB1.out.set_ _ _, HX.out.setCell (by simp) _⟩
      case measure => simp [intOf]; omega
    · have hj12 := Lib.hid (show j = 12 by omega)
      obtain ⟨wo, rfl⟩ : ∃ wo : World, wo = wr := ⟨_, rfl⟩
      clear hB0 hB1 hext
      go_wp2
      go_loopw [7, 18] (fun c i wr => ∃ k : Nat, k ≤ cs.length ∧ i = .int .i64 k ∧ c = .int .i64 ((largM cs bz k).2 : Nat) ∧ Blk wr w.heap.size 58 (crewA bz) ∧ Blk wr (w.heap.size + 1) 73 (workA (largM cs bz k).1) ∧ Ext w wr) (fun _ i _ => cs.length - (intOf i).toNat)
      case atStart => exact ⟨0, by omega, rfl, rfl, HB0.out, by have hb := HB1.out; rw [hj12.out, initF_end] at hb; exact hb, HX.out⟩
      case round =>
        obtain ⟨k, hk, rfl, rfl, hB0, hB1, hext⟩ := hrel
        have HB0 := Lib.hid hB0
        have HB1 := Lib.hid hB1
        have HX := Lib.hid hext
        have hle := largM_le cs bz k
        by_cases hkl : k < cs.length
        · have hsz : w.heap.size + 1 < wr.heap.size := hB1.lt
          clear hB0 hB1 hext
          go_wp2_with (first | (refine wpList_load_row (o := ⟨some 21, .load 58 (.tmp 3), _, _, _, _⟩) rfl 58 (.tmp 3) rfl w.heap.size rfl 58 (crewA bz) (0, 0) _ HB0.out Try.underlying58 rfl (by rw [crewA_size]; exact info58) ?_) | (refine wpList_store_mid (op := ⟨none, .store 58 (.tmp 9) (.tmp 21), _, _, _, _⟩) rfl 58 (.tmp 9) (.tmp 21) rfl wr.heap.size 0 (crewA bz) rfl rfl ?_ (by rw [crewA_size]; exact info58) (crewA_one bz) ?_; (exact there_blk (Blk.new wr 58 _) _ (by rw [crewA_size]; simp))))
          have hWs : Blk ((wr.alloc (.cells #[.bool false, .bool false, .bool false, .bool false, .bool false, .bool false, .bool false, .bool false, .bool false, .bool false, .bool false, .bool false] 58)).setCells wr.heap.size 0 (crewA bz).toList) wr.heap.size 58 (crewA bz) := by
            have := setCells_all (Blk.new wr 58 #[.bool false, .bool false, .bool false, .bool false, .bool false, .bool false, .bool false, .bool false, .bool false, .bool false, .bool false, .bool false]) (crewA bz).toList (by rw [Array.length_toList, crewA_size]; rfl)
            simpa using this
          have hW2 := setCells_two wr.heap.size (crewA bz).toList 0 (wr.alloc (.cells #[.bool false, .bool false, .bool false, .bool false, .bool false, .bool false, .bool false, .bool false, .bool false, .bool false, .bool false, .bool false] 58))
          have hWw := hW2.blk (HB1.out.alloc _) (by omega) (by omega)
          have hWb := hW2.blk (HB0.out.alloc _) (by omega) (by omega)
          have hWx : Ext w ((wr.alloc (.cells #[.bool false, .bool false, .bool false, .bool false, .bool false, .bool false, .bool false, .bool false, .bool false, .bool false, .bool false, .bool false] 58)).setCells wr.heap.size 0 (crewA bz).toList) := (HX.out.alloc _).trans_below (hW2.below (B := w.heap.size) (by omega) (by omega))
          have hWz := hW2.size
          simp only [World.size_alloc] at hWz
          generalize (wr.alloc (.cells #[.bool false, .bool false, .bool false, .bool false, .bool false, .bool false, .bool false, .bool false, .bool false, .bool false, .bool false, .bool false] 58)).setCells wr.heap.size 0 (crewA bz).toList = W at hWs hWw hWb hWx hWz ⊢
          clear hW2
          have hR := HR.out.ext hWx
          have hfill := Lib.hid (c_fill (.slice A cs.length cap) cs (w.heap.size + 1) wr.heap.size w.heap.size (HR.out.und (by omega)) (by omega) (by omega) (by omega) (by omega) 13 k (largM cs bz k).1 bz W (unseen_le bz) hkl (largM_rng cs bz k hk) hR hWw hWs)
          have hWs := Lib.hid hWs
          have hWw := Lib.hid hWw
          have hWb := Lib.hid hWb
          have hWx := Lib.hid hWx
          have hR := Lib.hid hR
          have hWz := Lib.hid hWz
          refine hfill.out.mono ?_
          rintro e w2 ⟨rfl, hBw2, hBs2, hT2⟩
          have hBw2 := Lib.hid hBw2
          have hB02 := Lib.hid (hT2.blk hWb.out (by omega) (by omega))
          have hX2 := Lib.hid (hWx.out.trans_below (hT2.below (B := w.heap.size) (by omega) (by omega)))
          clear hT2 hBs2
          cases hres : (fillM cs 13 k (largM cs bz k).1 bz).1 with
          | true =>
            go_wp2
            go_roundw
            case rel =>
              refine ⟨k + 1, by omega, by go_num, ?_, hB02.out, hBw2.out, hX2.out⟩
              simp only [largM, hres, if_true]; go_num
            case measure => simp [intOf]; omega
          | false =>
            go_wp2
            go_roundw
            case rel =>
              refine ⟨k + 1, by omega, by go_num, ?_, hB02.out, hBw2.out, hX2.out⟩
              simp [largM, hres]
            case measure => simp [intOf]; omega
        · have hkn : k = cs.length := by omega
          subst hkn
          go_wp2
          go_ret
          exact ⟨rfl, HX.out⟩
end Go.Proofs.Ythfcllefmeoicaa
