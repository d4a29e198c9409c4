/- Contract of grade.Graded. -/
import Derived.Test.YtiahfiopigjolaaGreatMvd
import Derived.Test.YtiahfiopigjolaaGreatApp
import Derived.Deep.AppendLies
namespace Go.Proofs.YtiahfiopigjolaaGreat
open Go Go.RowKit
attribute [local go_sem ↓] Go.wp_at_zero Go.wp_at_succ

theorem shiftE_no {l : List Sp} {k : Nat} (hk : k < l.length) (h : (inR (-1000) 1000 l[k].x && inR (-1000) 1000 l[k].y) = false) : shiftE l k = 3 := by
  unfold shiftE; rw [nth_eq l hk, if_neg (by rw [h]; decide)]
theorem shiftE_yes {l : List Sp} {k : Nat} (hk : k < l.length) (h : (inR (-1000) 1000 l[k].x && inR (-1000) 1000 l[k].y) = true) : shiftE l k = 0 := by
  unfold shiftE; rw [nth_eq l hk, if_pos h]
theorem shiftE_sh {l : List Sp} (h : upto (shiftE l) l.length = 0) : ∀ s ∈ l, Sh s := by
  intro s hs
  obtain ⟨k, hk, rfl⟩ := List.getElem_of_mem hs
  have h0 := upto_zero h k hk
  unfold shiftE at h0
  rw [nth_eq l hk] at h0
  split at h0
  · rename_i h1
    unfold inR at h1
    simp at h1
    exact ⟨by omega, by omega, by omega, by omega⟩
  · omega
theorem cornerAt_mv {l : List Sp} {m : Int} {i : Nat} (h : ∀ s ∈ l, Sh s) (h0 : 0 < l.length) (m0 : -100 ≤ m) (m1 : m ≤ 100) : Mv (cornerAt l m i) := by
  have hk : i % l.length < l.length := Nat.mod_lt _ h0
  have hs := h _ (List.getElem_mem hk)
  unfold cornerAt
  rw [nth_eq l hk]
  have e1 := mul_small m0 m1 hs.x0 hs.x1
  have e2 := mul_small m0 m1 hs.y0 hs.y1
  exact ⟨e1.1, e1.2, e2.1, e2.2⟩
theorem gradeE_mult {p : Pc} {m : Int} (h : inR (-100) 100 m = false) : gradeE p m = 3 := by unfold gradeE; rw [if_neg (by rw [h]; decide)]
theorem gradeE_len {p : Pc} {m : Int} (h : inR (-100) 100 m = true) (h2 : ¬ p.corners.length = p.edges.length) : gradeE p m = 1 := by unfold gradeE; rw [if_pos h, if_neg h2]
theorem gradeE_shift {p : Pc} {m : Int} (h : inR (-100) 100 m = true) (h2 : p.corners.length = p.edges.length) (h3 : upto (shiftE p.corners) p.corners.length = 3) : gradeE p m = 3 := by
  unfold gradeE; rw [if_pos h, if_pos h2, h3, if_neg (by decide)]
theorem gradeE_ol {p : Pc} {m : Int} (h : inR (-100) 100 m = true) (h2 : p.corners.length = p.edges.length) (h3 : upto (shiftE p.corners) p.corners.length = 0) (h4 : ¬ olCheck p.edges = 0) : gradeE p m = olCheck p.edges := by
  unfold gradeE; rw [if_pos h, if_pos h2, if_pos h3, if_neg h4]
theorem gradeE_end {p : Pc} {m : Int} (h : inR (-100) 100 m = true) (h2 : p.corners.length = p.edges.length) (h3 : upto (shiftE p.corners) p.corners.length = 0) (h4 : olCheck p.edges = 0) : gradeE p m = olCheck (gradedL p m) := by
  unfold gradeE; rw [if_pos h, if_pos h2, if_pos h3, if_pos h4]
theorem graded_bad {p : Pc} {m : Int} (h : ¬ gradeE p m = 0) : graded p m = [] := by unfold graded; rw [if_neg h]
theorem graded_ok {p : Pc} {m : Int} (h : gradeE p m = 0) : graded p m = gradedL p m := by unfold graded; rw [if_pos h]
/-- an outline without an error -/
structure OlOk (l : List Ed) : Prop where
  two : 2 ≤ l.length
  few : l.length ≤ 16
  line : ∀ i (h : i < l.length), PlOk l[i].line
  pl : ∀ i (h : i < l.length), plCheck l[i].line = 0
theorem olOk_of {l : List Ed} (h : olCheck l = 0) : OlOk l := by
  unfold olCheck at h
  split at h
  · omega
  · split at h
    · omega
    · split at h
      · rename_i h1 h2 h3
        have hp : ∀ i (hi : i < l.length), plCheck l[i].line = 0 := fun i hi => (edgeE_ok hi (upto_zero h3 i hi)).2
        exact ⟨by omega, by omega, fun i hi => plOk_of (hp i hi), hp⟩
      · rename_i h3
        exact absurd h h3

/-- an edge next to where its line lies -/
def eqV (q : Ed × Option Addr × Nat) : Value := .slice q.2.1 q.1.line.length q.2.2
def eqC (q : Ed × Option Addr × Nat) : List Value := edC q.1 (eqV q)
theorem eqC_len (q : Ed × Option Addr × Nat) : (eqC q).length = 2 := rfl
theorem eqC_one (q : Ed × Option Addr × Nat) : ∀ u ∈ eqC q, u.oneCell' = true := by
  intro u hu
  simp only [eqC, edC, eqV, List.mem_cons, List.not_mem_nil, or_false] at hu
  rcases hu with rfl | rfl <;> rfl
theorem info_edge : (Tryz.prog.info? 48).map (fun i => (i.zero, i.size, i.bytes)) = some (some (.agg #[.string ⟨#[]⟩, .slice none 0 0]), 2, 40) := by kernel_rfl
theorem OwnE.rdEd {E : TypeId} {B : Nat} {w : World} {v : Value} {l : List (Ed × Option Addr × Nat)} (h : OwnE E 2 eqC B w v l) (hf : ∀ q ∈ l, RdL 2 spP w (eqV q) q.1.line) (hn : ∀ q ∈ l, q.1.name.size ≤ maxLen) : RdL 2 edP w v (l.map (·.1)) := by
  obtain ⟨A, cap, rfl, h1, h2, h3⟩ := h.cells eqC_len (by omega)
  refine ⟨A, cap, by simp, by simpa using h1, h2, fun j hj => ?_⟩
  have hj' : j < l.length := by simpa using hj
  obtain ⟨b, o, rfl, hc⟩ := h3 j hj'
  rw [List.getElem_map]
  exact ⟨b, o, _, rfl, ⟨_, rfl, hf _ (List.getElem_mem hj'), hn _ (List.getElem_mem hj')⟩, rfl, hc⟩
theorem OwnE.mono {α : Type} {E : TypeId} {k B B' : Nat} {enc : α → List Value} {w : World} {v : Value} {l : List α} (h : OwnE E k enc B w v l) (hB : B' ≤ B) : OwnE E k enc B' w v l := by
  obtain ⟨h1, h2⟩ := h
  refine ⟨h1, ?_⟩
  rcases h2 with h2 | ⟨g, cap, cur, e, hg, h3⟩
  · exact .inl h2
  · exact .inr ⟨g, cap, cur, e, Nat.le_trans hB hg, h3⟩
/-- what Graded's second loop keeps -/
structure GrAt (p : Pc) (m : Int) (w wr : World) (u : Value) (k : Nat) (ps : List (Ed × Option Addr × Nat)) : Prop where
  le : k ≤ p.edges.length
  pre : ps.map (·.1) = (List.range k).map (gradedAt p m)
  own : OwnE 48 2 eqC w.heap.size wr u ps
  lines : ∀ q ∈ ps, OwnE 66 2 spC w.heap.size wr (eqV q) q.1.line
  nm : ∀ q ∈ ps, q.1.name.size ≤ maxLen
  ext : Ext w wr
theorem GrAt.len {p : Pc} {m : Int} {w wr : World} {u : Value} {k : Nat} {ps : List (Ed × Option Addr × Nat)} (h : GrAt p m w wr u k ps) : ps.length = k := by
  have := congrArg List.length h.pre
  simpa using this
theorem moved_len (l : List Sp) (a b : Sp) : (moved l a b).length = l.length := by unfold moved; simp
theorem graded_snoc (p : Pc) (m : Int) (k : Nat) : (List.range (k + 1)).map (gradedAt p m) = (List.range k).map (gradedAt p m) ++ [gradedAt p m k] := by
  rw [List.range_succ, List.map_append]; rfl

/-- how Graded ends -/
def GrOut (p : Pc) (m : Int) (w : World) (e : Ending) (w' : World) : Prop := ∃ v, e = .returned (.tuple #[v, .int .i64 (gradeE p m)]) ∧ RdL 2 edP w' v (graded p m) ∧ Ext w w'
theorem GrOut.bad {p : Pc} {m c : Int} {w w' : World} (h : gradeE p m = c) (hc : c ≠ 0) (he : Ext w w') : GrOut p m w (.returned (.tuple #[.slice none 0 0, .int .i64 c])) w' := by
  subst h
  exact ⟨_, rfl, by rw [graded_bad hc]; exact RdL.nil _ _ _, he⟩

set_option maxRecDepth 100000 in
set_option maxHeartbeats 2000000 in
theorem c_graded (p : Pc) (v1 v2 v3 v4 : Value) (m : Int) (w : World) (h : PcR w p v1 v2 v3 v4) : Calls Tryz.prog 8 #[.agg (pcC p v1 v2 v3 v4).toArray, .int .i64 m] w (GrOut p m w) := by
  obtain ⟨A1, c1, rfl⟩ := h.ed.slice
  obtain ⟨A2, c2, rfl⟩ := h.nt.slice
  obtain ⟨A3, c3, rfl⟩ := h.co.slice
  obtain ⟨A4, c4, rfl⟩ := h.wi.slice
  have hle := h.ed.le
  have hlc := h.co.le
  unfold maxLen at hle hlc
  have hed := Lib.hid h.ed
  have hco := Lib.hid h.co
  clear h
  have hcw := Lib.hid (fun n w => c_within n 100 w (by omega) (by omega))
  have hcs := Lib.hid (fun n w => c_within n 1000 w (by omega) (by omega))
  have hcl := Lib.hid (fun w h => c_olCheck (.slice A1 p.edges.length c1) p.edges w h)
  unfold pcC
  go_enter Tryz.func8, Tryz.ntmps8
  go_wp2_with fail
  refine (hcw.out _ _).mono ?_
  rintro e w1 ⟨rfl, rfl⟩
  obtain ⟨W, hW⟩ : ∃ W, W = w.alloc (.cells (pcC p (.slice A1 p.edges.length c1) (.slice A2 p.notches.length c2) (.slice A3 p.corners.length c3) (.slice A4 p.widths.length c4)).toArray 44) := ⟨_, rfl⟩
  have hX := Lib.hid (show Ext w W from hW ▸ (Ext.refl w).alloc _)
  have hP := Lib.hid (show Blk W w.heap.size 44 (pcC p (.slice A1 p.edges.length c1) (.slice A2 p.notches.length c2) (.slice A3 p.corners.length c3) (.slice A4 p.widths.length c4)).toArray from hW ▸ Blk.new _ _ _)
  unfold pcC at hW
  rw [← hW]
  clear hW
  obtain ⟨q0, q1, q2, q3, q4, q5, q6⟩ := hP.out.parts7
  have lP := hP.out.lt
  rcases hmul : inR (-100) 100 m with _ | _
  · have hh := Lib.hid (gradeE_mult (p := p) hmul)
    replace hmul := Lib.hid hmul
    go_wp2
    go_ret2
    exact GrOut.bad hh.out (by decide) hX.out
  have hm01 : -100 ≤ m ∧ m ≤ 100 := of_decide_eq_true hmul
  obtain ⟨hm0, hm1⟩ := hm01
  by_cases hlen : p.corners.length = p.edges.length
  rotate_left
  · have hh := Lib.hid (gradeE_len hmul hlen)
    have hli : ¬ (p.corners.length : Int) = (p.edges.length : Int) := by omega
    have hlb : ((p.corners.length : Int) != (p.edges.length : Int)) = true := bne_iff_ne.2 hli
    replace hmul := Lib.hid hmul
    go_wp2
    go_ret2
    exact GrOut.bad hh.out (by decide) hX.out
  have hShift := Lib.hid (fun h3 => gradeE_shift hmul hlen h3)
  have hOl := Lib.hid (fun h3 h4 => gradeE_ol hmul hlen h3 h4)
  have hEnd := Lib.hid (fun h3 h4 => gradeE_end hmul hlen h3 h4)
  have hlb : ((p.corners.length : Int) != (p.edges.length : Int)) = false := by rw [hlen]; simp
  have hli : (p.corners.length : Int) = (p.edges.length : Int) := by omega
  replace hmul := Lib.hid hmul
  replace hlen := Lib.hid hlen
  go_wp2
  clear q0 q1 q2 q3 q4 q5 q6 lP hlb hli
  go_loopw [27] (fun i wr => ∃ k : Nat, k ≤ p.corners.length ∧ i = .int .i64 (k : Nat) ∧ Pass (shiftE p.corners) k ∧ Ext W wr) (fun i _ => p.corners.length - (intOf i).toNat)
  case atStart => exact ⟨0, Nat.zero_le _, rfl, Pass.zero _, Ext.refl _⟩
  case round =>
    obtain ⟨k, hk, rfl, hup, hX1⟩ := hrel
    by_cases hlt : k < p.corners.length
    · obtain ⟨b, o, rfl, d0, d1⟩ := hco.out.sp k hlt
      have hNo := Lib.hid (fun h => hShift.out (hup.hit hlt (shiftE_no hlt h) (by decide)))
      have hYes := Lib.hid (fun h => hup.next (shiftE_yes hlt h))
      obtain ⟨f, hf⟩ : ∃ f, f = p.corners[k] := ⟨_, rfl⟩
      rw [← hf] at d0 d1 hNo hYes
      clear hf
      have hX2 := Lib.hid (hX.out.trans hX1)
      replace d0 := hX2.out.cell d0
      replace d1 := hX2.out.cell d1
      have lb : b < wr.heap.size := World.block_lt_of_cell? _ _ d0
      replace hX1 := Lib.hid hX1
      replace hup := Lib.hid hup
      have hki : (k : Int) < p.corners.length := by omega
      have hki2 : (k : Int) < p.edges.length := by have := hlen.out; omega
      have hki3 : k < p.edges.length := by omega
      go_wp2_with fail
      refine (hcs.out f.x _).mono ?_
      rintro e w2 ⟨rfl, rfl⟩
      rcases hx : inR (-1000) 1000 f.x with _ | _
      · have hh := Lib.hid (hNo.out (by rw [hx]; rfl))
        replace hx := Lib.hid hx
        go_wp2
        go_ret2
        exact GrOut.bad hh.out (by decide) (hX2.out.alloc _)
      · go_wp2_with fail
        refine (hcs.out f.y _).mono ?_
        rintro e w2 ⟨rfl, rfl⟩
        rcases hy : inR (-1000) 1000 f.y with _ | _
        · have hh := Lib.hid (hNo.out (by rw [hx, hy]; rfl))
          replace hx := Lib.hid hx
          replace hy := Lib.hid hy
          go_wp2
          go_ret2
          exact GrOut.bad hh.out (by decide) (hX2.out.alloc _)
        · have hup2 := Lib.hid (hYes.out (by rw [hx, hy]; rfl))
          replace hx := Lib.hid hx
          replace hy := Lib.hid hy
          go_wp2
          go_roundw
          case rel => exact ⟨k + 1, by omega, by go_num, hup2.out, hX1.out.alloc _⟩
          case measure => simp [intOf]; omega
    · have hki : ¬ (k : Int) < p.corners.length := by omega
      have hki2 : ¬ (k : Int) < p.edges.length := by have := hlen.out; omega
      have hki3 : ¬ k < p.edges.length := by omega
      have hsh := Lib.hid (hup.done hlt hk)
      have hE0 := Lib.hid (hX.out.trans hX1)
      obtain ⟨q0, q1, q2, q3, q4, q5, q6⟩ := (hP.out.ext hX1).parts7
      have lP := (hP.out.ext hX1).lt
      clear hup
      replace hX1 := Lib.hid hX1
      go_wp2_with fail
      refine (hcl.out _ (hed.out.ext edP.stays hE0.out)).mono ?_
      rintro e w2 ⟨rfl, hx⟩
      have hE2 := Lib.hid (hE0.out.trans hx)
      have hP2 := Lib.hid ((hP.out.ext hX1.out).ext hx)
      clear hx q0 q1 q2 q3 q4 q5 q6 lP
      by_cases hol : olCheck p.edges = 0
      rotate_left
      · have hh := Lib.hid (hOl.out hsh.out hol)
        have hn0 : (olCheck p.edges != 0) = true := bne_iff_ne.2 hol
        go_wp2
        go_ret2
        exact GrOut.bad hh.out hol hE2.out
      have hend := Lib.hid (hEnd.out hsh.out hol)
      have hok := Lib.hid (olOk_of hol)
      rw [hol]
      replace hol := Lib.hid hol
      obtain ⟨q0, q1, q2, q3, q4, q5, q6⟩ := hP2.out.parts7
      have lP := hP2.out.lt
      go_wp2
      clear q0 q1 q2 q3 q4 q5 q6 lP
      have h16 := hok.out.few
      go_loopw [10, 56] (fun u i wr => ∃ (k : Nat) (ps : List (Ed × Option Addr × Nat)), i = .int .i64 (k : Nat) ∧ GrAt p m w wr u k ps) (fun _ i _ => p.edges.length - (intOf i).toNat)
      case atStart => exact ⟨0, [], rfl, Nat.zero_le _, rfl, OwnE.nil _ _ _ _ _, fun _ h => (by cases h), fun _ h => (by cases h), hE2.out⟩
      case round =>
        obtain ⟨k, ps, rfl, hat⟩ := hrel
        obtain ⟨Aq, cq, rfl⟩ := hat.own.slice
        have hkle := hat.le
        have hpl := hat.len
        by_cases hlt : k < p.edges.length
        · obtain ⟨b, o, L, n, rfl, hline, hnz, d0, d1⟩ := hed.out.edge k hlt
          have hplk := hok.out.line k hlt
          have hgr := Lib.hid (show gradedAt p m k = ⟨p.edges[k].name, moved p.edges[k].line (cornerAt p.corners m k) (cornerAt p.corners m (k + 1))⟩ by unfold gradedAt; rw [nth_eq p.edges hlt])
          have hsn := Lib.hid (graded_snoc p m k)
          obtain ⟨ed, hedk⟩ : ∃ e, e = p.edges[k] := ⟨_, rfl⟩
          rw [← hedk] at hline hnz d0 d1 hplk hgr
          clear hedk
          have hshs := shiftE_sh hsh.out
          have hcpos : 0 < p.corners.length := by have := hlen.out; omega
          have hMa := cornerAt_mv (i := k) hshs hcpos hm0 hm1
          have hMb := cornerAt_mv (i := k + 1) hshs hcpos hm0 hm1
          have hcl16 : p.corners.length ≤ 1000 := by have := hlen.out; omega
          have hc1 := Lib.hid (fun w h => c_corner (.slice A3 p.corners.length c3) p.corners m k w h hshs hm0 hm1 hcpos hcl16 (by omega))
          have hc2 := Lib.hid (fun w h => c_corner (.slice A3 p.corners.length c3) p.corners m (k + 1) w h hshs hm0 hm1 hcpos hcl16 (by omega))
          obtain ⟨ca, hca⟩ : ∃ s, s = cornerAt p.corners m k := ⟨_, rfl⟩
          obtain ⟨cb, hcb⟩ : ∃ s, s = cornerAt p.corners m (k + 1) := ⟨_, rfl⟩
          rw [← hca] at hMa hc1 hgr
          rw [← hcb] at hMb hc2 hgr
          clear hca hcb hshs
          have hcm := Lib.hid (fun w h => c_moved (.slice L ed.line.length n) ed.line ca cb w h hplk hMa hMb)
          unfold spV at hc1 hc2 hcm
          rw [show ((k + 1 : Nat) : Int) = (k : Int) + 1 by omega] at hc2
          have hli := Lib.hid hline
          have hXr := Lib.hid hat.ext
          replace d0 := hXr.out.cell d0
          replace d1 := hXr.out.cell d1
          have lb : b < wr.heap.size := World.block_lt_of_cell? _ _ d0
          have hrow := Lib.hid (show ¬ some wr.heap.size = (Value.slice Aq ps.length cq).ownBlock from fun e => by
            have := (World.ownsRow.lt hat.own wr.heap.size e.symm).2
            omega)
          have hown0 := Lib.hid hat.own
          have hlines0 := Lib.hid hat.lines
          have hpre := Lib.hid hat.pre
          have hnms := Lib.hid hat.nm
          clear hat hline hplk hMa hMb
          have hki : (k : Int) < p.edges.length := by omega
          have hkw : IntKind.i64.wrap ((k : Int) + 1) = (k : Int) + 1 := IntWalk.i64_in _ (by omega)
          have hpl20 : ps.length ≤ 16 := by omega
          replace hpl := Lib.hid hpl
          go_wp2_with fail
          obtain ⟨wB, hwB⟩ : ∃ wB, wB = wr.alloc (.cells (edC ed (.slice L ed.line.length n)).toArray 48) := ⟨_, rfl⟩
          have hV := Lib.hid (show Blk wB wr.heap.size 48 (edC ed (.slice L ed.line.length n)).toArray from hwB ▸ Blk.new _ _ _)
          have hXB := Lib.hid (show Ext w wB from hwB ▸ hXr.out.alloc _)
          have hown := Lib.hid (show OwnE 48 2 eqC w.heap.size wB (.slice Aq ps.length cq) ps from hwB ▸ hown0.out.alloc _)
          have hlines := Lib.hid (show ∀ q ∈ ps, OwnE 66 2 spC w.heap.size wB (eqV q) q.1.line from fun q hq => hwB ▸ (hlines0.out q hq).alloc _)
          unfold edC at hwB
          rw [← hwB]
          clear hwB d0 d1 lb
          obtain ⟨p0, p1, hlE⟩ := ed_cells hV.out
          have hE0w := Lib.hid (show Ext wB wB.drew from (Ext.refl wB).drew)
          clear hE0
          have hE0 := hE0w
          refine wp_region_held_drew (S := fun w' => (∀ o, w'.cell? ⟨wr.heap.size, o, none⟩ = wB.cell? ⟨wr.heap.size, o, none⟩) ∧ Ext w w') (by kernel_rfl) ⟨fun o => rfl, hXB.out.drew⟩ (fun hHeld => ?_)
          refine wpAnyH_take (i := 0) (oi := ⟨some 61, _, _, _, _, _⟩) (v := ?_) rfl (by kernel_rfl) (by kernel_rfl) (by kernel_rfl) (fun _ _ _ h => h) (Or.inl ⟨by rfl, ?_⟩) hHeld ?_
          rotate_left
          · intro w hSw; go_simp; try with_reducible rfl
          try simp only [Act.put, List.setIfInBounds_toArray, List.set_cons_zero, List.set_cons_succ]
          refine wpAnyH_take (i := 1) (oi := ⟨some 62, _, _, _, _, _⟩) (v := ?_) rfl (by kernel_rfl) (by kernel_rfl) (by kernel_rfl) (fun _ _ _ h => h) (Or.inl ⟨by rfl, ?_⟩) hHeld ?_
          rotate_left
          · intro w hSw; go_simp; try with_reducible rfl
          try simp only [Act.put, List.setIfInBounds_toArray, List.set_cons_zero, List.set_cons_succ]
          refine wpAnyH_take (i := 2) (oi := ⟨some 63, _, _, _, _, _⟩) (v := ?_) rfl (by kernel_rfl) (by kernel_rfl) (by kernel_rfl) (fun _ _ _ h => h) (Or.inl ⟨by rfl, ?_⟩) hHeld ?_
          rotate_left
          · intro w hSw; go_simp; try with_reducible rfl
          try simp only [Act.put, List.setIfInBounds_toArray, List.set_cons_zero, List.set_cons_succ]
          refine wpAnyH_take (i := 3) (oi := ⟨some 64, _, _, _, _, _⟩) (v := ?_) rfl (by kernel_rfl) (by kernel_rfl) (by kernel_rfl) (fun _ _ _ h => h) (Or.inl ⟨by rfl, ?_⟩) hHeld ?_
          rotate_left
          · intro w hSw; go_simp; try with_reducible rfl
          try simp only [Act.put, List.setIfInBounds_toArray, List.set_cons_zero, List.set_cons_succ]
          refine wpAnyH_take (i := 4) (oi := ⟨some 65, _, _, _, _, _⟩) (v := ?_) rfl (by kernel_rfl) (by kernel_rfl) (by kernel_rfl) (fun _ _ _ h => h) (Or.inl ⟨by rfl, ?_⟩) hHeld ?_
          rotate_left
          · intro w hSw; go_simp; try with_reducible rfl
          try simp only [Act.put, List.setIfInBounds_toArray, List.set_cons_zero, List.set_cons_succ]
          refine wpAnyH_take (i := 5) (oi := ⟨some 66, _, _, _, _, _⟩) (v := ?_) rfl (by kernel_rfl) (by kernel_rfl) (by kernel_rfl) (fun _ _ _ h => h) (Or.inl ⟨by rfl, ?_⟩) hHeld ?_
          rotate_left
          · intro w hSw; go_simp; try with_reducible rfl
          try simp only [Act.put, List.setIfInBounds_toArray, List.set_cons_zero, List.set_cons_succ]
          refine wpAnyH_take (i := 6) (oi := ⟨some 67, _, _, _, _, _⟩) (v := ?_) rfl (by kernel_rfl) (by kernel_rfl) (by kernel_rfl) (fun _ _ _ h => h) (Or.inl ⟨by rfl, ?_⟩) hHeld ?_
          rotate_left
          · intro w hSw; go_simp; try with_reducible rfl
          try simp only [Act.put, List.setIfInBounds_toArray, List.set_cons_zero, List.set_cons_succ]
          refine wpAnyH_take (i := 8) (oi := ⟨some 69, _, _, _, _, _⟩) (v := ?_) rfl (by kernel_rfl) (by kernel_rfl) (by kernel_rfl) (fun _ _ _ h => h) (Or.inl ⟨by rfl, ?_⟩) hHeld ?_
          rotate_left
          · intro w hSw; go_simp; try with_reducible rfl
          try simp only [Act.put, List.setIfInBounds_toArray, List.set_cons_zero, List.set_cons_succ]
          refine wpAnyH_take (i := 9) (oi := ⟨some 70, _, _, _, _, _⟩) (v := ?_) rfl (by kernel_rfl) (by kernel_rfl) (by kernel_rfl) (fun _ _ _ h => h) (Or.inl ⟨by rfl, ?_⟩) hHeld ?_
          rotate_left
          · intro w hSw; go_simp; try with_reducible rfl
          try simp only [Act.put, List.setIfInBounds_toArray, List.set_cons_zero, List.set_cons_succ]
          refine wpAnyH_take (i := 10) (oi := ⟨some 71, _, _, _, _, _⟩) (v := ?_) rfl (by kernel_rfl) (by kernel_rfl) (by kernel_rfl) (fun _ _ _ h => h) (Or.inl ⟨by rfl, ?_⟩) hHeld ?_
          rotate_left
          · intro w hSw; go_simp; try with_reducible rfl
          try simp only [Act.put, List.setIfInBounds_toArray, List.set_cons_zero, List.set_cons_succ]
          refine wpAnyH_ready (rs := [7]) (by kernel_rfl) (by simp) (AllReadyH.cons (o := ⟨some 68, _, _, _, _, _⟩) rfl (fun K hK => ?_) AllReadyH.nil)
          go_simp
          refine (hc1.out _ (hco.out.ext spP.stays (hXB.out.trans hE0.out))).mono ?_
          rintro e w1 ⟨rfl, hx⟩
          have hE1 := Lib.hid (hE0.out.trans hx)
          clear hx
          go_wp2_with fail
          refine hK.out _ _ ⟨fun o => hE1.out.below.cell (p := ⟨wr.heap.size, o, none⟩) hlE, hXB.out.trans hE1.out⟩ (fun hHeld => ?_)
          clear hK K
          try simp only [Act.put, List.setIfInBounds_toArray, List.set_cons_zero, List.set_cons_succ]
          refine wpAnyH_ready (rs := [11]) (by kernel_rfl) (by simp) (AllReadyH.cons (o := ⟨some 72, _, _, _, _, _⟩) rfl (fun K hK => ?_) AllReadyH.nil)
          go_simp
          refine (hc2.out _ (hco.out.ext spP.stays (hXB.out.trans hE1.out))).mono ?_
          rintro e w2 ⟨rfl, hx⟩
          have hE2 := Lib.hid (hE1.out.trans hx)
          clear hx
          go_wp2_with fail
          refine hK.out _ _ ⟨fun o => hE2.out.below.cell (p := ⟨wr.heap.size, o, none⟩) hlE, hXB.out.trans hE2.out⟩ (fun hHeld => ?_)
          clear hK K
          try simp only [Act.put, List.setIfInBounds_toArray, List.set_cons_zero, List.set_cons_succ]
          refine wpAnyH_ready (rs := [12]) (by kernel_rfl) (by simp) (AllReadyH.cons (o := ⟨some 73, _, _, _, _, _⟩) rfl (fun K hK => ?_) AllReadyH.nil)
          go_simp
          refine (hcm.out _ (hli.out.ext spP.stays (hXB.out.trans hE2.out))).mono ?_
          rintro e w3 ⟨u, rfl, hu, hx⟩
          obtain ⟨Au, cu, rfl⟩ := hu.slice
          have hE3 := Lib.hid (hE2.out.trans hx)
          have hs3 : wB.heap.size ≤ w2.heap.size := hE2.out.size
          have hu3 := Lib.hid hu
          clear hx hu
          go_wp2_with fail
          refine hK.out _ _ ⟨fun o => hE3.out.below.cell (p := ⟨wr.heap.size, o, none⟩) hlE, hXB.out.trans hE3.out⟩ (fun hHeld => ?_)
          clear hK K
          try simp only [Act.put, List.setIfInBounds_toArray, List.set_cons_zero, List.set_cons_succ]
          refine wpAnyH_take (i := 13) (oi := ⟨some 74, _, _, _, _, _⟩) (v := ?_) rfl (by kernel_rfl) (by kernel_rfl) (by kernel_rfl) (fun _ _ _ h => h) (Or.inl ⟨by rfl, ?_⟩) hHeld ?_
          rotate_left
          · intro w hSw; go_simp; try with_reducible rfl
          try simp only [Act.put, List.setIfInBounds_toArray, List.set_cons_zero, List.set_cons_succ]
          refine wpAnyH_ready (rs := [14]) (by kernel_rfl) (by simp) (AllReadyH.cons (o := ⟨some 75, _, _, _, _, _⟩) rfl (fun K hK => ?_) AllReadyH.nil)
          go_simp
          refine hK.out _ _ ⟨fun o => (hE3.out.alloc _).below.cell (p := ⟨wr.heap.size, o, none⟩) hlE, (hXB.out.trans hE3.out).alloc _⟩ (fun hHeld => ?_)
          clear hK K
          try simp only [Act.put, List.setIfInBounds_toArray, List.set_cons_zero, List.set_cons_succ]
          refine wpAnyH_ready (rs := [15]) (by kernel_rfl) (by simp) (AllReadyH.cons (o := ⟨some 76, _, _, _, _, _⟩) rfl (fun K hK => ?_) AllReadyH.nil)
          rw [if_pos (by rfl)]
          refine wp_appE (α := Ed × Option Addr × Nat) (.tmp 61) (.tmp 75) 38 rfl 48 2 w.heap.size 40 _ eqC Tryz.underlying38 info_edge rfl (by decide) (by decide) eqC_len eqC_one (.slice Aq ps.length cq) ps (⟨ed.name, moved ed.line ca cb⟩, Au, cu) w3.heap.size 1 rfl ((hown.out.ext hE3.out).alloc _) rfl (Blk.new w3 48 _) (by omega) (by have := (hXB.out.trans hE3.out).size; simp; omega) ?_
          intro A7 cap7 w7 ho7 hg7
          have hX7 := Lib.hid (((hown.out.ext hE3.out).alloc (.cells (eqC (⟨ed.name, moved ed.line ca cb⟩, Au, cu)).toArray 48)).extGrown ((hXB.out.trans hE3.out).alloc _) (Nat.le_refl _) hg7)
          have hl7 := Lib.hid (fun (v : Value) (l : List Sp) (h : OwnE 66 2 spC w.heap.size w3 v l) => (h.alloc (.cells (eqC (⟨ed.name, moved ed.line ca cb⟩, Au, cu)).toArray 48)).kept hg7 (rows_ne (h.alloc (.cells (eqC (⟨ed.name, moved ed.line ca cb⟩, Au, cu)).toArray 48)) ((hown.out.ext hE3.out).alloc (.cells (eqC (⟨ed.name, moved ed.line ca cb⟩, Au, cu)).toArray 48)) (by decide)))
          have hk7 : ∀ o, w7.cell? ⟨wr.heap.size, o, none⟩ = wB.cell? ⟨wr.heap.size, o, none⟩ := fun o => (hg7.cell_far ⟨wr.heap.size, o, none⟩ (by have := hE3.out.size; simp; omega) hrow.out).trans ((hE3.out.alloc _).below.cell (p := ⟨wr.heap.size, o, none⟩) hlE)
          refine hK.out _ _ ⟨hk7, hX7.out⟩ (fun hHeld => ?_)
          clear hK K
          try simp only [Act.put, List.setIfInBounds_toArray, List.set_cons_zero, List.set_cons_succ]
          replace ho7 := Lib.hid ho7
          refine wpAnyH_take (i := 16) (oi := ⟨some 10, _, _, _, _, _⟩) (v := ?_) rfl (by kernel_rfl) (by kernel_rfl) (by kernel_rfl) (fun _ _ _ h => h) (Or.inl ⟨by rfl, ?_⟩) hHeld ?_
          rotate_left
          · intro w hSw; go_simp; try with_reducible rfl
          try simp only [Act.put, List.setIfInBounds_toArray, List.set_cons_zero, List.set_cons_succ]
          refine wpAnyH_done (by kernel_rfl) ?_ _

          clear hE0 hown hlines0 hown0 p0 p1
          go_wp2
          go_roundw
          case rel =>
            refine ⟨k + 1, ps ++ [(⟨ed.name, moved ed.line ca cb⟩, Au, cu)], by go_num, ⟨by omega, ?_, ho7.out, ?_, ?_, hX7.out⟩⟩
            · rw [List.map_append, hpre.out, hsn.out, hgr.out]; rfl
            · intro q hq
              rcases List.mem_append.1 hq with hq | hq
              · exact hl7.out _ _ ((hlines.out q hq).ext hE3.out)
              · rw [List.mem_singleton] at hq
                subst hq
                exact hl7.out _ _ (hu3.out.mono (hXB.out.trans hE2.out).size)
            · intro q hq
              rcases List.mem_append.1 hq with hq | hq
              · exact hnms.out q hq
              · rw [List.mem_singleton] at hq
                subst hq
                exact hnz
          case measure => simp [intOf]; omega
        · have hki : ¬ (k : Int) < p.edges.length := by omega
          have hkn : k = p.edges.length := by omega
          replace hpl := Lib.hid hpl
          have hrd := Lib.hid (show RdL 2 edP wr (.slice Aq ps.length cq) (gradedL p m) by
            have h1 := hat.own.rdEd (fun q hq => (hat.lines q hq).rdSp) hat.nm
            rw [hat.pre, hkn] at h1
            exact h1)
          replace hkn := Lib.hid hkn
          have hXr := Lib.hid hat.ext
          have hcl2 := Lib.hid (fun w h => c_olCheck (.slice Aq ps.length cq) (gradedL p m) w h)
          clear hat
          go_wp2_with fail
          refine (hcl2.out _ hrd.out).mono ?_
          rintro e w3 ⟨rfl, hx⟩
          have hE3 := Lib.hid (hXr.out.trans hx)
          have hrd3 := Lib.hid (hrd.out.ext edP.stays hx)
          clear hx
          rw [← hend.out]
          by_cases hg0 : gradeE p m = 0
          · have hgk := Lib.hid (graded_ok hg0)
            have hg1 := Lib.hid hg0
            rw [hg0]
            replace hg0 := Lib.hid hg0
            go_wp2
            go_ret2
            exact ⟨_, by rw [hg1.out]; rfl, by rw [hgk.out]; exact hrd3.out, hE3.out⟩
          · have hn0 : (gradeE p m != 0) = true := bne_iff_ne.2 hg0
            go_wp2
            go_ret2
            exact GrOut.bad rfl hg0 hE3.out

end Go.Proofs.YtiahfiopigjolaaGreat
