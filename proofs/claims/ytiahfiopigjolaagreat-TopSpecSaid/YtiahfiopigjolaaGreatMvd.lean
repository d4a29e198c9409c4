/- Contract of grade.moved. -/
import Derived.Test.YtiahfiopigjolaaGreatGra
import Derived.Laws.MakeOwn
import Derived.StillTailTactics
namespace Go.Proofs.YtiahfiopigjolaaGreat
open Go Go.RowKit
attribute [local go_sem ↓] Go.wp_at_zero Go.wp_at_succ

/-- cell i of a list of spots of which the first k are filled in -/
def mvC (f : Nat → Sp) (k i : Nat) : Value := if i / 2 < k then (if i % 2 = 0 then .int .i64 (f (i / 2)).x else .int .i64 (f (i / 2)).y) else .int .i64 0
def mvA (f : Nat → Sp) (n k : Nat) : Array Value := ((List.range (n * 2)).map (mvC f k)).toArray
theorem mvA_size (f : Nat → Sp) (n k : Nat) : (mvA f n k).size = n * 2 := by simp [mvA]
theorem mvA_get (f : Nat → Sp) (n k i : Nat) : (mvA f n k)[i]? = if i < n * 2 then some (mvC f k i) else none := by
  unfold mvA
  simp only [List.getElem?_toArray, List.getElem?_map]
  split
  · rename_i h; rw [List.getElem?_range h]; rfl
  · rename_i h; rw [List.getElem?_eq_none (by simp; omega)]; rfl
theorem mvA_zero (f : Nat → Sp) (n : Nat) : madeCells #[.int .i64 0, .int .i64 0] (n * 2) = mvA f n 0 := by
  apply Array.ext
  · rw [size_madeCells, mvA_size]
  · intro i h1 h2
    have e : (mvA f n 0)[i]? = some (.int .i64 0) := by
      rw [mvA_get, if_pos (by rw [mvA_size] at h2; exact h2)]
      unfold mvC
      rw [if_neg (by omega)]
    rw [Array.getElem?_eq_getElem h2] at e
    injection e with e
    rw [e]
    have h3 : i % 2 = 0 ∨ i % 2 = 1 := by omega
    simp only [madeCells, Array.getElem_map, Array.getElem_range]
    show (#[Value.int .i64 0, Value.int .i64 0] : Array Value)[i % 2]! = _
    rcases h3 with h3 | h3 <;> rw [h3] <;> rfl
theorem mvA_set (f : Nat → Sp) (n k : Nat) (h : k < n) : ((mvA f n k).setIfInBounds (k * 2) (.int .i64 (f k).x)).setIfInBounds (k * 2 + 1) (.int .i64 (f k).y) = mvA f n (k + 1) := by
  apply Array.ext_getElem?
  intro i
  rw [Array.getElem?_setIfInBounds, Array.getElem?_setIfInBounds, mvA_get, mvA_get, Array.size_setIfInBounds, mvA_size]
  have d1 : (k * 2) / 2 = k := by omega
  have d2 : (k * 2 + 1) / 2 = k := by omega
  by_cases e1 : k * 2 + 1 = i
  · subst e1
    rw [if_pos rfl, if_pos (by omega), if_pos (by omega)]
    unfold mvC
    rw [d2, if_pos (by omega), if_neg (by omega)]
  · rw [if_neg e1]
    by_cases e2 : k * 2 = i
    · subst e2
      rw [if_pos rfl, if_pos (by omega), if_pos (by omega)]
      unfold mvC
      rw [d1, if_pos (by omega), if_pos (by omega)]
    · rw [if_neg e2]
      split
      · congr 1
        unfold mvC
        by_cases e3 : i / 2 < k
        · rw [if_pos e3, if_pos (show i / 2 < k + 1 by omega)]
        · rw [if_neg e3, if_neg (show ¬ i / 2 < k + 1 by omega)]
      · rfl
theorem mvA_full (f : Nat → Sp) (n : Nat) : mvA f n n = (((List.range n).map f).flatMap spC).toArray := by
  apply Array.ext_getElem?
  intro i
  rw [mvA_get, List.getElem?_toArray]
  have hl : (((List.range n).map f).flatMap spC).length = n * 2 := by
    have : ∀ l : List Sp, (l.flatMap spC).length = l.length * 2 := by
      intro l
      induction l with
      | nil => rfl
      | cons a r ih => rw [List.flatMap_cons, List.length_append, ih, spC_len, List.length_cons]; omega
    rw [this]; simp
  split
  · rename_i h
    have h1 : i / 2 < ((List.range n).map f).length := by simp; omega
    have h2 := flat_get spC spC_len ((List.range n).map f) (i / 2) h1 (i % 2) (by omega)
    rw [show i / 2 * 2 + i % 2 = i by omega] at h2
    rw [h2]
    unfold mvC
    rw [if_pos (by omega)]
    have h3 : i % 2 = 0 ∨ i % 2 = 1 := by omega
    rcases h3 with h3 | h3
    · rw [if_pos h3, h3]; simp [spC]
    · rw [if_neg (by omega), h3]; simp [spC]
  · rename_i h
    rw [List.getElem?_eq_none (by rw [hl]; omega)]
theorem own_of_row {B n : Nat} {w : World} {g : Nat} {f : Nat → Sp} (h : Blk w g 66 (mvA f n n)) (hB : B ≤ g) (hn : n ≤ maxLen) : OwnE 66 2 spC B w (.slice (some ⟨g, 0, none⟩) n n) ((List.range n).map f) := by
  have hl : (((List.range n).map f).flatMap spC).length = n * 2 := by
    have e := congrArg Array.size (mvA_full f n)
    rw [mvA_size] at e
    simpa using e.symm
  unfold OwnE
  have hlen : ((List.range n).map f).length = n := by simp
  rw [hlen]
  refine ⟨hl, .inr ⟨g, n, _, rfl, hB, h, Nat.le_refl _, hn, mvA_size _ _ _, ?_⟩⟩
  rw [mvA_full, List.take_of_length_le (by simpa using Nat.le_of_eq hl)]
theorem make_spots (n : Nat) (hn : n ≤ 1000000) (f : Nat → Sp) (w : World) : (Instr.makeSlice 42 (.int .i64 n) (.int .i64 n)).run Tryz.prog w = .ok (.slice (some ⟨w.heap.size, 0, none⟩) n n) (w.alloc (.cells (mvA f n 0) 66)) := by
  obtain ⟨i, hi, hz, hs, hb⟩ := info_parts info_spot
  have hr := run_make (P := Tryz.prog) w 42 66 i _ Tryz.underlying42 hi hz .i64 .i64 n n (by omega) (by omega) (by rw [hb]; omega) (by omega)
  rw [hr, hs]
  simp only [Int.toNat_natCast, Value.cells, mvA_zero f]

/-- a move of a corner -/
structure Mv (s : Sp) : Prop where
  x0 : -100000 ≤ s.x
  x1 : s.x ≤ 100000
  y0 : -100000 ≤ s.y
  y1 : s.y ≤ 100000
theorem mul_len {k x : Int} (h0 : 0 ≤ k) (h1 : k ≤ 40) (h2 : -100000 ≤ x) (h3 : x ≤ 100000) : -4000000 ≤ k * x ∧ k * x ≤ 4000000 := by
  have a1 : k.natAbs ≤ 40 := by omega
  have a2 : x.natAbs ≤ 100000 := by omega
  have a3 : (k * x).natAbs ≤ 40 * 100000 := by rw [Int.natAbs_mul]; exact Nat.mul_le_mul a1 a2
  omega

set_option maxRecDepth 100000 in
set_option maxHeartbeats 4000000 in
theorem c_moved (v : Value) (l : List Sp) (a b : Sp) (w : World) (h : RdL 2 spP w v l) (hp : PlOk l) (ha : Mv a) (hb : Mv b) : Calls Tryz.prog 22 #[v, spV a, spV b] w fun e w' => ∃ u, e = .returned u ∧ OwnE 66 2 spC w.heap.size w' u (moved l a b) ∧ Ext w w' := by
  obtain ⟨A, c, rfl⟩ := h.slice
  have htwo := hp.two
  have hfew := hp.few
  replace h := Lib.hid h
  replace hp := Lib.hid hp
  obtain ⟨a0, a1, a2, a3⟩ := ha
  obtain ⟨b0, b1, b2, b3⟩ := hb
  obtain ⟨s, hs⟩ : ∃ s, s + 1 = l.length := ⟨l.length - 1, by omega⟩
  have hs1 : l.length - 1 = s := by omega
  have hat := Lib.hid (show ∀ k (hk : k < l.length), movedAt l a b k = ⟨l[k].x + rnd (((s : Int) - (k : Int)) * a.x + (k : Int) * b.x) (s : Int), l[k].y + rnd (((s : Int) - (k : Int)) * a.y + (k : Int) * b.y) (s : Int)⟩ from fun k hk => by
    unfold movedAt; rw [nth_eq l hk, hs1])
  have hmk := make_spots l.length (by omega) (movedAt l a b)
  have hmv := Lib.hid (show moved l a b = (List.range l.length).map (movedAt l a b) from rfl)
  obtain ⟨F, hF⟩ : ∃ F, F = movedAt l a b := ⟨_, rfl⟩
  rw [← hF] at hat hmk hmv
  clear hF
  have hsw : IntKind.i64.wrap ((l.length : Int) - 1) = (s : Int) := (IntWalk.i64_in _ (by omega)).trans (by omega)
  unfold spV
  go_enter Tryz.func22, Tryz.ntmps22
  go_wp2
  clear hmk
  obtain ⟨g, hg⟩ : ∃ g, g = w.heap.size + 1 + 1 := ⟨_, rfl⟩
  obtain ⟨W, hW⟩ : ∃ W, W = ((w.alloc (.cells (spC a).toArray 66)).alloc (.cells (spC b).toArray 66)).alloc (.cells (mvA F l.length 0) 66) := ⟨_, rfl⟩
  have hA := Lib.hid (show Blk W w.heap.size 66 (spC a).toArray from hW ▸ ((Blk.new _ _ _).alloc _).alloc _)
  have hB := Lib.hid (show Blk W (w.heap.size + 1) 66 (spC b).toArray from hW ▸ (Blk.at (by simp)).alloc _)
  have hM := Lib.hid (show Blk W g 66 (mvA F l.length 0) from hW ▸ Blk.at (by rw [hg]; simp))
  have hX := Lib.hid (show Ext w W from hW ▸ (((Ext.refl w).alloc _).alloc _).alloc _)
  unfold spC at hW
  rw [← hW, ← hg]
  clear hW
  have hgw : w.heap.size + 1 < g := by omega
  replace hg := Lib.hid hg
  go_loopw [19] (fun i wr => ∃ k : Nat, k ≤ l.length ∧ i = .int .i64 (k : Nat) ∧ Blk wr w.heap.size 66 (spC a).toArray ∧ Blk wr (w.heap.size + 1) 66 (spC b).toArray ∧ Blk wr g 66 (mvA F l.length k) ∧ Ext w wr) (fun i _ => l.length - (intOf i).toNat)
  case atStart => exact ⟨0, Nat.zero_le _, rfl, hA.out, hB.out, hM.out, hX.out⟩
  case round =>
    obtain ⟨k, hk, rfl, hA1, hB1, hM1, hX1⟩ := hrel
    by_cases hlt : k < l.length
    · obtain ⟨bb, o, rfl, c0, c1⟩ := h.out.sp k hlt
      have iF := hp.out.ins _ (List.getElem_mem hlt)
      have hFk := Lib.hid (hat.out k hlt)
      obtain ⟨f, hf⟩ : ∃ f, f = l[k] := ⟨_, rfl⟩
      rw [← hf] at c0 c1 iF hFk
      clear hf
      obtain ⟨f0, f1, f2, f3⟩ := iF
      replace c0 := hX1.cell c0
      replace c1 := hX1.cell c1
      have lb : bb < wr.heap.size := World.block_lt_of_cell? _ _ c0
      have hki : (k : Int) < l.length := by omega
      have hks : (k : Int) ≤ s := by omega
      have m1 := mul_len (k := (s : Int) - k) (x := a.x) (by omega) (by omega) a0 a1
      have m2 := mul_len (k := (k : Int)) (x := b.x) (by omega) (by omega) b0 b1
      have m3 := mul_len (k := (s : Int) - k) (x := a.y) (by omega) (by omega) a2 a3
      have m4 := mul_len (k := (k : Int)) (x := b.y) (by omega) (by omega) b2 b3
      have hr1 := Lib.hid (fun W => c_rounded (((s : Int) - (k : Int)) * a.x + (k : Int) * b.x) (s : Int) W (by omega) (by omega) (by omega) (by omega))
      have hr2 := Lib.hid (fun W => c_rounded (((s : Int) - (k : Int)) * a.y + (k : Int) * b.y) (s : Int) W (by omega) (by omega) (by omega) (by omega))
      have j1 := rnd_in (a := ((s : Int) - (k : Int)) * a.x + (k : Int) * b.x) (b := (s : Int)) (by omega) (by omega) (by omega) (by omega)
      have j2 := rnd_in (a := ((s : Int) - (k : Int)) * a.y + (k : Int) * b.y) (b := (s : Int)) (by omega) (by omega) (by omega) (by omega)
      obtain ⟨rx, hrx⟩ : ∃ r, r = rnd (((s : Int) - (k : Int)) * a.x + (k : Int) * b.x) (s : Int) := ⟨_, rfl⟩
      obtain ⟨ry, hry⟩ : ∃ r, r = rnd (((s : Int) - (k : Int)) * a.y + (k : Int) * b.y) (s : Int) := ⟨_, rfl⟩
      rw [← hrx] at j1 hr1 hFk
      rw [← hry] at j2 hr2 hFk
      clear hrx hry
      have y1 : IntKind.i64.wrap ((s : Int) - (k : Int)) = (s : Int) - (k : Int) := IntWalk.i64_in _ (by omega)
      have y2 : IntKind.i64.wrap (((s : Int) - (k : Int)) * a.x) = ((s : Int) - (k : Int)) * a.x := IntWalk.i64_in _ (by omega)
      have y3 : IntKind.i64.wrap ((k : Int) * b.x) = (k : Int) * b.x := IntWalk.i64_in _ (by omega)
      have y4 : IntKind.i64.wrap (((s : Int) - (k : Int)) * a.x + (k : Int) * b.x) = ((s : Int) - (k : Int)) * a.x + (k : Int) * b.x := IntWalk.i64_in _ (by omega)
      have y5 : IntKind.i64.wrap (((s : Int) - (k : Int)) * a.y) = ((s : Int) - (k : Int)) * a.y := IntWalk.i64_in _ (by omega)
      have y6 : IntKind.i64.wrap ((k : Int) * b.y) = (k : Int) * b.y := IntWalk.i64_in _ (by omega)
      have y7 : IntKind.i64.wrap (((s : Int) - (k : Int)) * a.y + (k : Int) * b.y) = ((s : Int) - (k : Int)) * a.y + (k : Int) * b.y := IntWalk.i64_in _ (by omega)
      have y8 : IntKind.i64.wrap (f.x + rx) = f.x + rx := IntWalk.i64_in _ (by omega)
      have y9 : IntKind.i64.wrap (f.y + ry) = f.y + ry := IntWalk.i64_in _ (by omega)
      replace hA1 := Lib.hid hA1
      replace hB1 := Lib.hid hB1
      replace hM1 := Lib.hid hM1
      replace hX1 := Lib.hid hX1
      replace hs := Lib.hid hs
      have hk0 : (0 : Int) ≤ k := by omega
      go_wp2_with fail
      obtain ⟨wB, hwB⟩ : ∃ wB, wB = wr.alloc (.cells (spC f).toArray 66) := ⟨_, rfl⟩
      have hV := Lib.hid (show Blk wB wr.heap.size 66 (spC f).toArray from hwB ▸ Blk.new _ _ _)
      have hE := Lib.hid (show Ext wr wB from hwB ▸ (Ext.refl wr).alloc _)
      unfold spC at hwB
      rw [← hwB]
      clear hwB c0 c1 lb
      have hA2 := Lib.hid (hA1.out.ext hE.out)
      have hB2 := Lib.hid (hB1.out.ext hE.out)
      have hM2 := Lib.hid (hM1.out.ext hE.out)
      obtain ⟨p0, p1, lA⟩ := sp_cells hA2.out
      obtain ⟨q0, q1, lB⟩ := sp_cells hB2.out
      obtain ⟨v0, v1, lV⟩ := sp_cells hV.out
      have z0 : wB.cell? ⟨g, k * 2, none⟩ = some (mvC F k (k * 2)) := by rw [hM2.out.cell, mvA_get, if_pos (by omega)]
      have z1 : wB.cell? ⟨g, k * 2 + 1, none⟩ = some (mvC F k (k * 2 + 1)) := by rw [hM2.out.cell, mvA_get, if_pos (by omega)]
      have zf0 := hM2.out.frozen (k * 2)
      have zf1 := hM2.out.frozen (k * 2 + 1)
      have lM := hM2.out.lt
      refine wp_region_still_tail 36 (by kernel_rfl) (by kernel_rfl) ?_
      simp only [List.take_succ_cons, List.take_zero, List.drop_succ_cons, List.drop_zero]
      show wpStill Tryz.prog _ wB.drew (fun a' => wpList Tryz.prog _ _ _ a' wB.drew) _ _
      replace p0 : wB.drew.cell? ⟨w.heap.size, 0, none⟩ = some (.int .i64 a.x) := p0
      replace p1 : wB.drew.cell? ⟨w.heap.size, 1, none⟩ = some (.int .i64 a.y) := p1
      replace q0 : wB.drew.cell? ⟨w.heap.size + 1, 0, none⟩ = some (.int .i64 b.x) := q0
      replace q1 : wB.drew.cell? ⟨w.heap.size + 1, 1, none⟩ = some (.int .i64 b.y) := q1
      replace v0 : wB.drew.cell? ⟨wr.heap.size, 0, none⟩ = some (.int .i64 f.x) := v0
      replace v1 : wB.drew.cell? ⟨wr.heap.size, 1, none⟩ = some (.int .i64 f.y) := v1
      replace z0 : wB.drew.cell? ⟨g, k * 2, none⟩ = some (mvC F k (k * 2)) := z0
      replace z1 : wB.drew.cell? ⟨g, k * 2 + 1, none⟩ = some (mvC F k (k * 2 + 1)) := z1
      replace zf0 : wB.drew.frozen? ⟨g, k * 2, none⟩ = false := zf0
      replace zf1 : wB.drew.frozen? ⟨g, k * 2 + 1, none⟩ = false := zf1
      replace lM : g < wB.drew.heap.size := lM
      have hA3 := Lib.hid (show Blk wB.drew w.heap.size 66 (spC a).toArray from hA2.out.drew)
      have hB3 := Lib.hid (show Blk wB.drew (w.heap.size + 1) 66 (spC b).toArray from hB2.out.drew)
      have hM3 := Lib.hid (show Blk wB.drew g 66 (mvA F l.length k) from hM2.out.drew)
      have hX3 := Lib.hid (show Ext w wB.drew from (hX1.out.trans hE.out).drew)
      clear hA1 hB1 hM1 hX1 hA2 hB2 hM2 hE hV lA lB lV
      generalize wB.drew = W3 at *
      iterate 16 still_step
      still_call (hr1.out W3)
      iterate 15 still_step
      still_call (hr2.out W3)
      repeat still_step
      refine wpStill_nil ?_
      go_wp2
      go_roundw
      case rel =>
        have e1 : f.x + rx = (F k).x := by rw [hFk.out]
        have e2 : f.y + ry = (F k).y := by rw [hFk.out]
        refine ⟨k + 1, by omega, by go_num, (hA3.out.far (by simp; omega) _).far (by simp; omega) _, (hB3.out.far (by simp; omega) _).far (by simp; omega) _, ?_, (hX3.out.setCell (by simp; omega) _).setCell (by simp; omega) _⟩
        rw [← mvA_set F l.length k hlt, e1, e2]
        exact (hM3.out.set_ _ _).set_ _ _
      case measure => simp [intOf]; omega
    · have hki : ¬ (k : Int) < l.length := by omega
      have hkn : k = l.length := by omega
      rw [hkn] at hM1
      replace hM1 := Lib.hid hM1
      replace hX1 := Lib.hid hX1
      go_wp2
      go_ret
      exact ⟨_, rfl, by rw [hmv.out]; exact own_of_row hM1.out (by omega) (by unfold maxLen; omega), hX1.out⟩

end Go.Proofs.YtiahfiopigjolaaGreat
