/- Contracts of spec.Judge and spec.Within, where nothing is refused. -/
import Derived.Test.YtiahfiopigjolaaGreatSpc
import Derived.Test.YtiahfiopigjolaaGreatTgt
namespace Go.Proofs.YtiahfiopigjolaaGreat
open Go Go.RowKit

/-- how far x is outside -/
def outN (p : Pm) (t x : Int) : Int := if 0 < x - (t + p.plus) then x - (t + p.plus) else if x - (t - p.minus) < 0 then x - (t - p.minus) else 0
theorem outN_over {p : Pm} {t x : Int} (h : 0 < x - (t + p.plus)) : outN p t x = x - (t + p.plus) := by unfold outN; rw [if_pos h]
theorem outN_under {p : Pm} {t x : Int} (h : ¬ 0 < x - (t + p.plus)) (h2 : x - (t - p.minus) < 0) : outN p t x = x - (t - p.minus) := by unfold outN; rw [if_neg h, if_pos h2]
theorem outN_in {p : Pm} {t x : Int} (h : ¬ 0 < x - (t + p.plus)) (h2 : ¬ x - (t - p.minus) < 0) : outN p t x = 0 := by unfold outN; rw [if_neg h, if_neg h2]

/-- the numbers that Judge has written when k points are done -/
def jdAt (s : St) (l : List Pm) (m : Int) (xs : List Int) (k j : Nat) : Int := if j < k then outN (nth l j) (targetN s (nth l j) m) (nth xs j) else 0
def jdC (s : St) (l : List Pm) (m : Int) (xs : List Int) (k : Nat) : List Value := (List.range l.length).map fun j => .int .i64 (jdAt s l m xs k j)
theorem jdC_len (s : St) (l : List Pm) (m : Int) (xs : List Int) (k : Nat) : (jdC s l m xs k).length = l.length := by unfold jdC; simp
theorem jdC_get (s : St) (l : List Pm) (m : Int) (xs : List Int) (k j : Nat) (h : j < l.length) : (jdC s l m xs k).toArray[j]? = some (.int .i64 (jdAt s l m xs k j)) := by unfold jdC; simp [h]
theorem jdC_zero (s : St) (l : List Pm) (m : Int) (xs : List Int) : jdC s l m xs 0 = List.replicate l.length (.int .i64 0) := by
  unfold jdC jdAt
  apply List.ext_getElem
  · simp
  · intro i h1 h2; simp
theorem jdC_set (s : St) (l : List Pm) (m : Int) (xs : List Int) (k : Nat) {v : Int} (hv : outN (nth l k) (targetN s (nth l k) m) (nth xs k) = v) : ((jdC s l m xs k).toArray.setIfInBounds k (.int .i64 v)) = (jdC s l m xs (k + 1)).toArray := by
  subst hv
  unfold jdC jdAt
  rw [List.setIfInBounds_toArray]
  congr 1
  apply List.ext_getElem
  · simp
  · intro i h1 h2
    rw [List.getElem_set]
    simp only [List.getElem_map, List.getElem_range]
    by_cases e : k = i
    · subst e; simp
    · by_cases e2 : i < k
      · simp [e, e2, show i < k + 1 by omega]
      · simp [e, e2, show ¬ i < k + 1 by omega]
theorem jdC_keep (s : St) (l : List Pm) (m : Int) (xs : List Int) (k : Nat) (hv : outN (nth l k) (targetN s (nth l k) m) (nth xs k) = 0) : jdC s l m xs k = jdC s l m xs (k + 1) := by
  unfold jdC jdAt
  apply List.ext_getElem
  · simp
  · intro i h1 h2
    simp only [List.getElem_map, List.getElem_range]
    by_cases e : k = i
    · subst e; simp [hv]
    · by_cases e2 : i < k
      · simp [e2, show i < k + 1 by omega]
      · simp [e2, show ¬ i < k + 1 by omega]

/-- what Judge is asked for, so that it refuses nothing -/
structure JdOk (s : St) (l : List Pm) (z : Nat) (m : Int) (xs : List Int) : Prop where
  spec : specE s l = 0
  len : xs.length = l.length
  z1 : z < s.sizes.length
  z2 : z < s.mults.length
  m_ : ∀ h : z < s.mults.length, s.mults[z] = m
  in_ : ∀ k, k < xs.length → 0 ≤ nth xs k ∧ nth xs k ≤ 35184372088832
  tg : ∀ k, k < l.length → targetE s (nth l k) m = 0

theorem made_ints (n : Nat) : madeCells #[.int .i64 0] (n * 1) = Array.replicate n (.int .i64 0) := by
  apply Array.ext
  · rw [size_madeCells]; simp
  · intro i h1 h2
    simp [madeCells, Nat.mod_one]
theorem make_ints (n : Nat) (hn : n ≤ 1000000) (w : World) : (Instr.makeSlice 23 (.int .i64 n) (.int .i64 n)).run Tryz.prog w = .ok (.slice (some ⟨w.heap.size, 0, none⟩) n n) (w.alloc (.cells (Array.replicate n (.int .i64 0)) 3)) := by
  obtain ⟨i, hi, hz, hs, hb⟩ := info_parts info_int
  have hr := run_make (P := Tryz.prog) w 23 3 i _ Tryz.underlying23 hi hz .i64 .i64 n n (by omega) (by omega) (by rw [hb]; omega) (by omega)
  rw [hr, hs]
  simp only [Int.toNat_natCast, Value.cells, made_ints]

set_option maxRecDepth 100000 in
set_option maxHeartbeats 4000000 in
theorem c_Judge (s : St) (v1 v2 v3 v4 v5 v6 : Value) (l : List Pm) (v u : Value) (z : Nat) (m : Int) (xs : List Int) (w : World) (h : StR w s v1 v2 v3 v4 v5 v6) (hl : RdL 5 pmP w v l) (hxs : RdL 1 inP w u xs) (hok : JdOk s l z m xs) : Calls Tryz.prog 18 #[.agg (stC s v1 v2 v3 v4 v5 v6).toArray, v, .int .i64 z, u] w fun e w' => ∃ g, e = .returned (.tuple #[.slice (some ⟨g, 0, none⟩) l.length l.length, .int .i64 0]) ∧ Blk w' g 3 (jdC s l m xs l.length).toArray ∧ Ext w w' := by
  have hcs := Lib.hid (fun w h h2 => c_spCheck s v1 v2 v3 v4 v5 v6 l v w h h2)
  have hct := Lib.hid (fun (p : Pm) (u1 u2 : Value) w h h2 h3 => c_target s v1 v2 v3 v4 v5 v6 p u1 u2 m w h h2 h3)
  have hst := Lib.hid h
  obtain ⟨A1, c1, rfl⟩ := h.sz.slice
  obtain ⟨A2, c2, rfl⟩ := h.mu.slice
  obtain ⟨A3, c3, rfl⟩ := h.pc.slice
  obtain ⟨A4, c4, rfl⟩ := h.us.slice
  obtain ⟨A5, c5, rfl⟩ := h.sm.slice
  obtain ⟨A6, c6, rfl, hops⟩ := h.op
  obtain ⟨A7, c7, rfl⟩ := hl.slice
  obtain ⟨A8, c8, rfl⟩ := hxs.slice
  have hl1 := h.sz.le
  have hl2 := h.mu.le
  have hll := hl.le
  have hlx := hxs.le
  have hfew := specE_few hok.spec
  unfold maxLen at hl1 hl2 hops hll hlx
  obtain ⟨bm, om, rfl, m0⟩ := h.mu.int z hok.z2
  rw [hok.m_ hok.z2] at m0
  replace hl := Lib.hid hl
  replace hxs := Lib.hid hxs
  have hz1 := hok.z1
  have hz2 := hok.z2
  replace hok := Lib.hid hok
  clear h
  have hzi : (z : Int) < s.sizes.length := by omega
  have hzi2 : (z : Int) < s.mults.length := by omega
  have hz0 : (0 : Int) ≤ z := by omega
  unfold stC at hcs hct ⊢
  go_enter Tryz.func18, Tryz.ntmps18
  go_wp2_with fail
  refine (hcs.out _ (hst.out.ext ((Ext.refl w).alloc _)) (hl.out.ext pmP.stays ((Ext.refl w).alloc _))).mono ?_
  rintro e w1 ⟨rfl, hx⟩
  rw [hok.out.spec]
  have hP := Lib.hid ((Blk.new w 29 (stC s (.slice A1 s.sizes.length c1) (.slice (some ⟨bm, om, none⟩) s.mults.length c2) (.slice A3 s.pieces.length c3) (.slice A4 s.uses.length c4) (.slice A5 s.seams.length c5) (.slice A6 s.nops c6)).toArray).ext hx)
  have hX := Lib.hid (((Ext.refl w).alloc (.cells (stC s (.slice A1 s.sizes.length c1) (.slice (some ⟨bm, om, none⟩) s.mults.length c2) (.slice A3 s.pieces.length c3) (.slice A4 s.uses.length c4) (.slice A5 s.seams.length c5) (.slice A6 s.nops c6)).toArray 29)).trans hx)
  clear hx hcs
  obtain ⟨q0, q1, q2, q3, q4, q5, q6⟩ := hP.out.parts7
  have lP := hP.out.lt
  have hlb : ((xs.length : Int) != (l.length : Int)) = false := by rw [hok.out.len]; simp
  have hlm : l.length ≤ 16 := hfew
  have hzs : ¬ s.sizes.length ≤ z := by omega
  have hmk := make_ints l.length (by omega) w1
  go_wp2
  clear hmk q0 q1 q2 q3 q4 q5 q6 lP hlb
  obtain ⟨g, hg⟩ : ∃ g, g = w1.heap.size := ⟨_, rfl⟩
  obtain ⟨W, hW⟩ : ∃ W, W = w1.alloc (.cells (Array.replicate l.length (Value.int .i64 0)) 3) := ⟨_, rfl⟩
  have hM := Lib.hid (show Blk W g 3 (jdC s l m xs 0).toArray from by rw [jdC_zero, show (List.replicate l.length (Value.int .i64 0)).toArray = Array.replicate l.length (Value.int .i64 0) by simp]; exact hW ▸ Blk.at hg)
  have hXW := Lib.hid (show Ext w1 W from hW ▸ (Ext.refl w1).alloc _)
  rw [← hW, ← hg]
  clear hW
  have hwg := Lib.hid (show w1.heap.size ≤ g by omega)
  replace hg := Lib.hid hg
  go_loopw [43] (fun i wr => ∃ k : Nat, k ≤ l.length ∧ i = .int .i64 (k : Nat) ∧ Blk wr g 3 (jdC s l m xs k).toArray ∧ Ext w1 wr) (fun i _ => l.length - (intOf i).toNat)
  case atStart => exact ⟨0, Nat.zero_le _, rfl, hM.out, hXW.out⟩
  case round =>
    obtain ⟨k, hk, rfl, hJ, hX1⟩ := hrel
    by_cases hlt : k < l.length
    · have hkx : k < xs.length := by rw [hok.out.len]; exact hlt
      obtain ⟨b, o, B1, e1, B2, e2, rfl, hr, d0, d1, d2, d3, d4⟩ := hl.out.pom k hlt
      obtain ⟨bx, ox, rfl, x0⟩ := hxs.out.int k hkx
      have hpo := specE_at hok.out.spec hlt
      have htg := hok.out.tg k hlt
      have hin := hok.out.in_ k hkx
      have hSet := Lib.hid (fun (v : Int) (hv : outN (nth l k) (targetN s (nth l k) m) (nth xs k) = v) => jdC_set s l m xs k hv)
      have hKeep := Lib.hid (fun hv => jdC_keep s l m xs k hv)
      rw [nth_eq l hlt] at htg hSet hKeep
      rw [nth_eq xs hkx] at hin hSet hKeep
      obtain ⟨f, hf⟩ : ∃ f, f = l[k] := ⟨_, rfl⟩
      obtain ⟨x, hx⟩ : ∃ x, x = xs[k] := ⟨_, rfl⟩
      rw [← hf] at d0 d1 d2 d3 d4 hr hpo htg hSet hKeep
      rw [← hx] at x0 hin hSet hKeep
      clear hf hx
      have hT := targetN_in hpo (Nat.le_refl _) htg
      have hTn := tgN_ok htg
      have hT2 : sumTo (targetAt s f m) f.pieces.length = targetN s f m := rfl
      rw [hT2] at hT
      clear hT2
      have hfew := hpo.few
      have hp0 := hpo.p0
      have hp1 := hpo.p1
      have hm0 := hpo.m0
      have hm1 := hpo.m1
      obtain ⟨hin0, hin1⟩ := hin
      have hcf := Lib.hid (fun w h h2 => hct.out f (.slice B1 f.pieces.length e1) (.slice B2 f.edges.length e2) w h h2 hpo)
      rw [htg, hTn] at hcf
      clear htg hTn
      obtain ⟨T, hTe⟩ : ∃ T, T = targetN s f m := ⟨_, rfl⟩
      rw [← hTe] at hT hcf hSet hKeep
      clear hTe
      have hT0 : 0 ≤ T := hT.1
      have hT1 : T ≤ 2748779069440 := by have := hT.2; omega
      clear hT hpo
      unfold pmC at hcf
      have hF := Lib.hid (hX.out.trans hX1)
      have hx00 := Lib.hid x0
      replace d0 := hF.out.cell d0
      replace d1 := hF.out.cell d1
      replace d2 := hF.out.cell d2
      replace d3 := hF.out.cell d3
      replace d4 := hF.out.cell d4
      replace x0 := hF.out.cell x0
      have lb : b < wr.heap.size := World.block_lt_of_cell? _ _ d0
      have lbx : bx < wr.heap.size := World.block_lt_of_cell? _ _ x0
      have hx0 := Lib.hid x0
      have hgl := Lib.hid hJ.lt
      have hki : (k : Int) < l.length := by omega
      have hkxi : (k : Int) < xs.length := by omega
      have hk0 : (0 : Int) ≤ k := by omega
      replace hr := Lib.hid hr
      have hX1h := Lib.hid hX1
      have hP1 := Lib.hid (hP.out.ext hX1)
      have hm0c := Lib.hid (hF.out.cell m0)
      clear hX1
      replace hJ := Lib.hid hJ
      go_wp2_with fail
      obtain ⟨wB, hwB⟩ : ∃ wB, wB = wr.alloc (.cells (pmC f (.slice B1 f.pieces.length e1) (.slice B2 f.edges.length e2)).toArray 37) := ⟨_, rfl⟩
      have hV := Lib.hid (show Blk wB wr.heap.size 37 (pmC f (.slice B1 f.pieces.length e1) (.slice B2 f.edges.length e2)).toArray from hwB ▸ Blk.new _ _ _)
      have hXB := Lib.hid (show Ext w wB from hwB ▸ hF.out.alloc _)
      have hXrB := Lib.hid (show Ext wr wB from hwB ▸ (Ext.refl wr).alloc _)
      have hPB := Lib.hid (show Blk wB w.heap.size 29 _ from hwB ▸ hP1.out.alloc _)
      unfold pmC at hwB
      rw [← hwB]
      clear hwB d0 d1 d2 d3 d4 lb x0 lbx
      obtain ⟨p0, p1, p2, p3, p4⟩ := hV.out.parts5
      have lV := hV.out.lt
      obtain ⟨q0, q1, q2, q3, q4, q5, q6⟩ := hPB.out.parts7
      have lP := hPB.out.lt
      have mm := hXrB.out.cell hm0c.out
      have lm := World.block_lt_of_cell? _ _ mm
      have hN : wB.heap.size ≤ wB.heap.size := Nat.le_refl _
      have hNw := Lib.hid hXB.out.size
      go_region_held3 (fun w' => (∀ b o, b < wB.heap.size → w'.cell? ⟨b, o, none⟩ = wB.cell? ⟨b, o, none⟩) ∧ Kp wB.heap.size wB w')
        (first
          | exact (Kp.start hN).drew.both
          | (go_split_ands; exact ((by assumption : Kp _ _ _).call he).both)
          | assumption)
        (first
          | (go_at_call 25; go_split_ands; with_reducible refine (hcf.out _ (hst.out.ext ((by assumption : Kp _ _ _).ext hXB.out hNw.out)) (hr.out.ext ((by assumption : Kp _ _ _).ext hXB.out hNw.out))).mono ?_; rintro e w6 ⟨rfl, he⟩))
      go_split_ands
      have hE6 := Lib.hid ((by assumption : Kp _ _ w6).ext (Ext.refl wB) (Nat.le_refl _))
      clear p0 p1 p2 p3 p4 lV q0 q1 q2 q3 q4 q5 q6 lP he hN mm lm
      have hX6 := Lib.hid (hXrB.out.trans hE6.out)
      obtain ⟨p0, p1, p2, p3, p4⟩ := (hV.out.ext hE6.out).parts5
      have lV := (hV.out.ext hE6.out).lt
      have x0 := hX6.out.cell hx0.out
      have lbx := World.block_lt_of_cell? _ _ x0
      have hw1 : IntKind.i64.wrap (T + f.plus) = T + f.plus := IntWalk.i64_in _ (by omega)
      have hw2 : IntKind.i64.wrap (x - (T + f.plus)) = x - (T + f.plus) := IntWalk.i64_in _ (by omega)
      have hw3 : IntKind.i64.wrap (T - f.minus) = T - f.minus := IntWalk.i64_in _ (by omega)
      have hw4 : IntKind.i64.wrap (x - (T - f.minus)) = x - (T - f.minus) := IntWalk.i64_in _ (by omega)
      have hJ6 := Lib.hid (hJ.out.ext hX6.out)
      go_wp2_with fail
      go_quiet (fail)
      have hOv := Lib.hid (fun h => outN_over (p := f) (t := T) (x := x) h)
      have hUn := Lib.hid (fun h h2 => outN_under (p := f) (t := T) (x := x) h h2)
      have hIn := Lib.hid (fun h h2 => outN_in (p := f) (t := T) (x := x) h h2)
      by_cases ho : 0 < x - (T + f.plus)
      · have hv := Lib.hid (hOv.out ho)
        have hgz := hJ6.out.frozen k
        have hgc : w6.cell? ⟨g, k, none⟩ = some (.int .i64 (jdAt s l m xs k k)) := (hJ6.out.cell k).trans (jdC_get _ _ _ _ _ _ hlt)
        have hgl6 := hJ6.out.lt
        have hun : ¬ x - (T - f.minus) < 0 := by omega
        go_wp2_with fail
        clear hgz hgc hgl6 p0 p1 p2 p3 p4 lV x0 lbx
        generalize hW7 : World.setCell (World.drewN w6 _) _ _ = W7
        have hg1 := Lib.hid (show wr.heap.size ≠ g from fun e => by have := hgl.out; omega)
        have hJ7 := Lib.hid (show Blk W7 g 3 (jdC s l m xs (k + 1)).toArray from by rw [← hSet.out _ hv.out, ← hW7]; exact (hJ6.out.drewN _).set_ _ _)
        have hV7 := Lib.hid (show Blk W7 wr.heap.size 37 _ from hW7 ▸ ((hV.out.ext hE6.out).drewN _).far hg1.out _)
        have hX7 := Lib.hid (show Ext w1 W7 from hW7 ▸ ((hX1h.out.trans hX6.out).drewN _).setCell hwg.out _)
        clear hW7
        obtain ⟨p0, p1, p2, p3, p4⟩ := hV7.out.parts5
        have lV := hV7.out.lt
        have x0 := (hX.out.trans hX7.out).cell hx00.out
        have lbx := World.block_lt_of_cell? _ _ x0
        go_quiet (fail)
        go_wp2
        go_roundw
        case rel => exact ⟨k + 1, by omega, by go_num, hJ7.out.drewN _, hX7.out.drewN _⟩
        case measure => simp [intOf]; omega
      · go_wp2_with fail
        go_quiet (fail)
        by_cases hu : x - (T - f.minus) < 0
        · have hv := Lib.hid (hUn.out (by omega) hu)
          have hgz := hJ6.out.frozen k
          have hgc : w6.cell? ⟨g, k, none⟩ = some (.int .i64 (jdAt s l m xs k k)) := (hJ6.out.cell k).trans (jdC_get _ _ _ _ _ _ hlt)
          have hgl6 := hJ6.out.lt
          go_wp2
          go_roundw
          case rel => exact ⟨k + 1, by omega, by go_num, by rw [← hSet.out _ hv.out]; exact ((hJ6.out.drewN _).set_ _ _), ((hX1h.out.trans hX6.out).drewN _).setCell (p := ⟨g, k, none⟩) hwg.out _⟩
          case measure => simp [intOf]; omega
        · have hv := Lib.hid (hIn.out (by omega) (by omega))
          go_wp2
          go_roundw
          case rel => exact ⟨k + 1, by omega, by go_num, by rw [← hKeep.out hv.out]; exact (hJ6.out.drewN _), (hX1h.out.trans hX6.out).drewN _⟩
          case measure => simp [intOf]; omega
    · have hki : ¬ (k : Int) < l.length := by omega
      have hkn : k = l.length := by omega
      rw [hkn] at hJ
      replace hJ := Lib.hid hJ
      replace hX1 := Lib.hid hX1
      go_wp2
      go_ret2
      exact ⟨g, rfl, hJ.out, hX.out.trans hX1.out⟩

/-- Within, where nothing is refused -/
def inB (s : St) (l : List Pm) (m : Int) (xs : List Int) : Bool := decide (∀ k, k < l.length → outN (nth l k) (targetN s (nth l k) m) (nth xs k) = 0)
theorem jdAt_full {s : St} {l : List Pm} {m : Int} {xs : List Int} {j : Nat} (h : j < l.length) : jdAt s l m xs l.length j = outN (nth l j) (targetN s (nth l j) m) (nth xs j) := by unfold jdAt; rw [if_pos h]

set_option maxRecDepth 100000 in
set_option maxHeartbeats 2000000 in
theorem c_Within (s : St) (v1 v2 v3 v4 v5 v6 : Value) (l : List Pm) (v u : Value) (z : Nat) (m : Int) (xs : List Int) (w : World) (h : StR w s v1 v2 v3 v4 v5 v6) (hl : RdL 5 pmP w v l) (hxs : RdL 1 inP w u xs) (hok : JdOk s l z m xs) : Calls Tryz.prog 11 #[.agg (stC s v1 v2 v3 v4 v5 v6).toArray, v, .int .i64 z, u] w fun e w' => e = .returned (.tuple #[.bool (inB s l m xs), .int .i64 0]) ∧ Ext w w' := by
  have hcj := Lib.hid (fun w h h2 h3 => c_Judge s v1 v2 v3 v4 v5 v6 l v u z m xs w h h2 h3 hok)
  have hst := Lib.hid h
  obtain ⟨A1, c1, rfl⟩ := h.sz.slice
  obtain ⟨A2, c2, rfl⟩ := h.mu.slice
  obtain ⟨A3, c3, rfl⟩ := h.pc.slice
  obtain ⟨A4, c4, rfl⟩ := h.us.slice
  obtain ⟨A5, c5, rfl⟩ := h.sm.slice
  obtain ⟨A6, c6, rfl, hops⟩ := h.op
  have hfew := specE_few hok.spec
  replace hl := Lib.hid hl
  replace hxs := Lib.hid hxs
  clear h hok
  unfold stC at hcj ⊢
  go_enter Tryz.func11, Tryz.ntmps11
  go_wp2_with fail
  refine (hcj.out _ (hst.out.ext ((Ext.refl w).alloc _)) (hl.out.ext pmP.stays ((Ext.refl w).alloc _)) (hxs.out.ext inP.stays ((Ext.refl w).alloc _))).mono ?_
  rintro e w1 ⟨g, rfl, hJ, hx⟩
  have hX := Lib.hid (((Ext.refl w).alloc _).trans hx)
  clear hx hcj
  replace hJ := Lib.hid hJ
  go_wp2
  go_loop [27] (fun i => ∃ k : Nat, k ≤ l.length ∧ i = .int .i64 (k : Nat) ∧ Hid (∀ j, j < k → outN (nth l j) (targetN s (nth l j) m) (nth xs j) = 0)) (fun i => l.length - (intOf i).toNat)
  case atStart => exact ⟨0, Nat.zero_le _, rfl, Lib.hid (fun j h => absurd h (by omega))⟩
  case round =>
    obtain ⟨k, hk, rfl, hup⟩ := hrel
    by_cases hlt : k < l.length
    · have hc := (hJ.out.cell k).trans (jdC_get _ _ _ _ _ _ hlt)
      rw [jdAt_full hlt] at hc
      have lg := hJ.out.lt
      have hki : (k : Int) < l.length := by omega
      by_cases hz : outN (nth l k) (targetN s (nth l k) m) (nth xs k) = 0
      · rw [hz] at hc
        have hup2 := Lib.hid (show ∀ j, j < k + 1 → outN (nth l j) (targetN s (nth l j) m) (nth xs j) = 0 from fun j hj => by
          rcases Nat.lt_or_ge j k with h | h
          · exact hup.out j h
          · rw [show j = k by omega]; exact hz)
        replace hz := Lib.hid hz
        go_wp2
        go_round
        case rel => exact ⟨k + 1, by omega, by go_num, hup2⟩
        case measure => simp [intOf]; omega
      · have hd := Lib.hid (show inB s l m xs = false from decide_eq_false (fun h => hz (h k hlt)))
        have hn0 : (outN (nth l k) (targetN s (nth l k) m) (nth xs k) != 0) = true := bne_iff_ne.2 hz
        generalize outN (nth l k) (targetN s (nth l k) m) (nth xs k) = x at *
        go_wp2
        go_ret2
        exact ⟨by rw [hd.out]; rfl, hX.out⟩
    · have hki : ¬ (k : Int) < l.length := by omega
      have hd := Lib.hid (show inB s l m xs = true from decide_eq_true (fun j hj => hup.out j (by omega)))
      go_wp2
      go_ret2
      exact ⟨by rw [hd.out]; rfl, hX.out⟩

end Go.Proofs.YtiahfiopigjolaaGreat
