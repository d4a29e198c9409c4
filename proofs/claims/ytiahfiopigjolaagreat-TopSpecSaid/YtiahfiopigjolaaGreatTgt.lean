/- Contract of spec.target. -/
import Derived.Test.YtiahfiopigjolaaGreatLaw
import Derived.Test.YtiahfiopigjolaaGreatLng
namespace Go.Proofs.YtiahfiopigjolaaGreat
open Go Go.RowKit

/-- what target adds up; 0 where an outline has an error -/
def tgN (s : St) (p : Pm) (m : Int) : Int := if targetE s p m = 0 then targetN s p m else 0
theorem tgN_bad {s : St} {p : Pm} {m : Int} (h : ¬ targetE s p m = 0) : tgN s p m = 0 := by unfold tgN; rw [if_neg h]
theorem tgN_ok {s : St} {p : Pm} {m : Int} (h : targetE s p m = 0) : tgN s p m = targetN s p m := by unfold tgN; rw [if_pos h]
theorem targetAtE_eq {s : St} {p : Pm} {m : Int} {k a : Nat} (hk : k < p.pieces.length) (ha : a < s.pieces.length) (h : p.pieces[k] = (a : Int)) : targetAtE s p m k = gradeE s.pieces[a] m := by
  unfold targetAtE; rw [nth_eq p.pieces hk, h, Int.toNat_natCast, nth_eq s.pieces ha]
theorem targetAt_eq {s : St} {p : Pm} {m : Int} {k a b : Nat} (hk : k < p.pieces.length) (hk2 : k < p.edges.length) (ha : a < s.pieces.length) (h : p.pieces[k] = (a : Int)) (h2 : p.edges[k] = (b : Int)) (hb : b < (gradedL s.pieces[a] m).length) : targetAt s p m k = plLen ((gradedL s.pieces[a] m)[b]).line := by
  unfold targetAt; rw [nth_eq p.pieces hk, nth_eq p.edges hk2, h, h2, Int.toNat_natCast, nth_eq s.pieces ha, lineAt_eq hb]

set_option maxRecDepth 100000 in
set_option maxHeartbeats 2000000 in
theorem c_target (s : St) (v1 v2 v3 v4 v5 v6 : Value) (p : Pm) (u1 u2 : Value) (m : Int) (w : World) (h : StR w s v1 v2 v3 v4 v5 v6) (hp : PmR w p u1 u2) (hok : PmOk s p) : Calls Tryz.prog 25 #[.agg (stC s v1 v2 v3 v4 v5 v6).toArray, .agg (pmC p u1 u2).toArray, .int .i64 m] w fun e w' => e = .returned (.tuple #[.int .i64 (tgN s p m), .int .i64 (targetE s p m)]) ∧ Ext w w' := by
  obtain ⟨A1, c1, rfl⟩ := h.sz.slice
  obtain ⟨A2, c2, rfl⟩ := h.mu.slice
  obtain ⟨A3, c3, rfl⟩ := h.pc.slice
  obtain ⟨A4, c4, rfl⟩ := h.us.slice
  obtain ⟨A5, c5, rfl⟩ := h.sm.slice
  obtain ⟨A6, c6, rfl, hops⟩ := h.op
  obtain ⟨A7, c7, rfl⟩ := hp.pc.slice
  obtain ⟨A8, c8, rfl⟩ := hp.ed.slice
  have hl3 := h.pc.le
  unfold maxLen at hl3 hops
  have hpc := Lib.hid h.pc
  have hpp := Lib.hid hp.pc
  have hpe := Lib.hid hp.ed
  clear h hp
  have hlen := Lib.hid hok.len
  have hfew := hok.few
  have hat := Lib.hid hok.at_
  have hTb := Lib.hid (fun h => tgN_bad (s := s) (p := p) (m := m) h)
  have hTk := Lib.hid (fun h => tgN_ok (s := s) (p := p) (m := m) h)
  have hTi := Lib.hid (fun k hk h => targetN_in (m := m) hok (k := k) hk h)
  clear hok
  obtain ⟨W, hW⟩ : ∃ W, W = (w.alloc (.cells (stC s (.slice A1 s.sizes.length c1) (.slice A2 s.mults.length c2) (.slice A3 s.pieces.length c3) (.slice A4 s.uses.length c4) (.slice A5 s.seams.length c5) (.slice A6 s.nops c6)).toArray 29)).alloc (.cells (pmC p (.slice A7 p.pieces.length c7) (.slice A8 p.edges.length c8)).toArray 37) := ⟨_, rfl⟩
  have hX := Lib.hid (show Ext w W from hW ▸ ((Ext.refl w).alloc _).alloc _)
  have hPs := Lib.hid (show Blk W w.heap.size 29 (stC s (.slice A1 s.sizes.length c1) (.slice A2 s.mults.length c2) (.slice A3 s.pieces.length c3) (.slice A4 s.uses.length c4) (.slice A5 s.seams.length c5) (.slice A6 s.nops c6)).toArray from hW ▸ (Blk.new _ _ _).alloc _)
  have hPp := Lib.hid (show Blk W (w.heap.size + 1) 37 (pmC p (.slice A7 p.pieces.length c7) (.slice A8 p.edges.length c8)).toArray from hW ▸ Blk.at (by rw [size_alloc]))
  unfold stC pmC at hW
  unfold stC pmC
  go_enter Tryz.func25, Tryz.ntmps25
  go_wp2_with fail
  rw [← hW]
  clear hW
  go_loopw [8, 17] (fun u i wr => ∃ k : Nat, k ≤ p.pieces.length ∧ i = .int .i64 (k : Nat) ∧ u = .int .i64 (sumTo (targetAt s p m) k) ∧ Pass (targetAtE s p m) k ∧ Ext W wr) (fun _ i _ => p.pieces.length - (intOf i).toNat)
  case atStart => exact ⟨0, Nat.zero_le _, rfl, rfl, Pass.zero _, Ext.refl _⟩
  case round =>
    obtain ⟨k, hk, rfl, rfl, hup, hX1⟩ := hrel
    have hF := Lib.hid (hX.out.trans hX1)
    have hPp1 := Lib.hid (hPp.out.ext hX1)
    by_cases hlt : k < p.pieces.length
    · have hke : k < p.edges.length := by have := hlen.out; omega
      obtain ⟨b, o, rfl, d0⟩ := hpp.out.int k hlt
      obtain ⟨b', o', rfl, d1⟩ := hpe.out.int k hke
      obtain ⟨a, e, ha, ea, eb, he⟩ := edgeB_nat (show edgeB s p.pieces[k] p.edges[k] = true by have := hat.out k hlt; rwa [nth_eq p.pieces hlt, nth_eq p.edges hke] at this)
      have hE := targetAtE_eq (m := m) hlt ha ea
      have hT := Lib.hid (fun hb => targetAt_eq (m := m) hlt hke ha ea eb hb)
      rw [ea] at d0
      rw [eb] at d1
      obtain ⟨bp, op, B1, e1, B2, e2, B3, e3, B4, e4, rfl, hr, g0, g1, g2, g3, g4, g5, g6⟩ := hpc.out.piece a ha
      have hHit := Lib.hid (fun (c : Int) (h : targetAtE s p m k = c) hc => show targetE s p m = c from hup.hit hlt h hc)
      have hNx := Lib.hid (fun h => hup.next (f := targetAtE s p m) h)
      obtain ⟨q, hq⟩ : ∃ q, q = s.pieces[a] := ⟨_, rfl⟩
      rw [← hq] at hr g0 g1 g2 g3 g4 g5 g6 he hE hT
      clear hq ea eb
      have hcg := Lib.hid (fun w h => c_graded q (.slice B1 q.edges.length e1) (.slice B2 q.notches.length e2) (.slice B3 q.corners.length e3) (.slice B4 q.widths.length e4) m w h)
      unfold pcC at hcg
      have hS := hTi.out k hk hup.no
      have hSum := Lib.hid (show sumTo (targetAt s p m) (k + 1) = sumTo (targetAt s p m) k + targetAt s p m k from rfl)
      obtain ⟨S, hSe⟩ : ∃ S, S = sumTo (targetAt s p m) k := ⟨_, rfl⟩
      rw [← hSe] at hS hSum
      rw [← hSe]
      clear hSe
      replace hE := Lib.hid hE
      replace d0 := hF.out.cell d0
      replace d1 := hF.out.cell d1
      replace g0 := hF.out.cell g0
      replace g1 := hF.out.cell g1
      replace g2 := hF.out.cell g2
      replace g3 := hF.out.cell g3
      replace g4 := hF.out.cell g4
      replace g5 := hF.out.cell g5
      replace g6 := hF.out.cell g6
      have lb : b < wr.heap.size := World.block_lt_of_cell? _ _ d0
      have lbp : bp < wr.heap.size := World.block_lt_of_cell? _ _ g0
      obtain ⟨q0, q1, q2, q3, q4, q5, q6⟩ := (hPs.out.ext hX1).parts7
      have lP := (hPs.out.ext hX1).lt
      have hki : (k : Int) < p.pieces.length := by omega
      have hke2 : (k : Int) < p.edges.length := by omega
      have hk0 : (0 : Int) ≤ k := by omega
      have hai : (a : Int) < s.pieces.length := by omega
      have ha0 : (0 : Int) ≤ a := by omega
      replace hr := Lib.hid hr
      replace hX1 := Lib.hid hX1
      replace hup := Lib.hid hup
      replace hlen := Lib.hid hlen.out
      go_wp2_with fail
      refine (hcg.out _ (hr.out.ext hF.out)).mono ?_
      rintro e' w2 ⟨v, rfl, hrd, hx⟩
      have hx2 := Lib.hid hx
      have hG := Lib.hid (hF.out.trans hx)
      have hX2 := Lib.hid (hX1.out.trans hx)
      clear hx q0 q1 q2 q3 q4 q5 q6 lP d0 g0 g1 g2 g3 g4 g5 g6 lb lbp
      by_cases hg : gradeE q m = 0
      rotate_left
      · have hn0 : (gradeE q m != 0) = true := bne_iff_ne.2 hg
        have hh := Lib.hid (hHit.out _ hE.out hg)
        have hb := Lib.hid (hTb.out (by rw [hh.out]; exact hg))
        replace hg := Lib.hid hg
        go_wp2
        go_ret2
        exact ⟨by rw [hb.out, hh.out]; rfl, hG.out⟩
      rw [graded_ok hg] at hrd
      have hok2 := (gradeE_oks hg).2
      have hgl := gradedL_len q m
      obtain ⟨Ag, cg, rfl⟩ := hrd.slice
      have hkg : e < (gradedL q m).length := by omega
      obtain ⟨bg, og, Lg, mg, rfl, hline, _, g2, g3⟩ := hrd.edge e hkg
      have hpl := hok2.pl e hkg
      have hlo := plLen_in (hok2.line e hkg)
      have hv := Lib.hid (lenV_ok hpl)
      have ht := hT.out hkg
      obtain ⟨ed, hed⟩ : ∃ x, x = (gradedL q m)[e] := ⟨_, rfl⟩
      rw [← hed] at hline g2 g3 hpl hv hlo ht
      clear hed hrd hok2
      rw [ht] at hSum
      clear ht
      have hup2 := Lib.hid (hNx.out (hE.out.trans hg))
      have hc2 := Lib.hid (fun w h => c_length (.slice Lg ed.line.length mg) ed.line w h)
      rw [hv.out, hpl] at hc2
      obtain ⟨L, hL⟩ : ∃ L, L = plLen ed.line := ⟨_, rfl⟩
      rw [← hL] at hlo hSum hc2
      clear hL
      have lbg : bg < w2.heap.size := World.block_lt_of_cell? _ _ g2
      rw [hg]
      replace hg := Lib.hid hg
      rw [hgl]
      replace hgl := Lib.hid hgl
      have hei : (e : Int) < q.edges.length := by omega
      have he0 : (0 : Int) ≤ e := by omega
      replace hpl := Lib.hid hpl
      replace hline := Lib.hid hline
      replace d1 := hx2.out.cell d1
      have lb' : b' < w2.heap.size := World.block_lt_of_cell? _ _ d1
      obtain ⟨r0, r1, r2, r3, r4⟩ := (hPp1.out.ext hx2.out).parts5
      have lR := (hPp1.out.ext hx2.out).lt
      have hsw : IntKind.i64.wrap (S + L) = S + L := IntWalk.i64_in _ (by omega)
      go_wp2_with fail
      refine (hc2.out _ hline.out).mono ?_
      rintro e' w3 ⟨rfl, hx⟩
      have hX3 := Lib.hid (hX2.out.trans hx)
      clear hx g2 g3 d1 r0 r1 r2 r3 r4
      go_wp2
      go_roundw
      case rel => exact ⟨k + 1, by omega, by go_num, by rw [hSum.out], hup2.out, hX3.out⟩
      case measure => simp [intOf]; omega
    · have hki : ¬ (k : Int) < p.pieces.length := by omega
      have hkn : k = p.pieces.length := by omega
      have hz := Lib.hid (show targetE s p m = 0 from hup.done hlt hk)
      have hn := Lib.hid (show tgN s p m = sumTo (targetAt s p m) k by rw [hTk.out hz.out, hkn]; rfl)
      replace hkn := Lib.hid hkn
      clear hup
      replace hX1 := Lib.hid hX1
      go_wp2
      go_ret2
      exact ⟨by rw [hn.out, hz.out]; rfl, hF.out⟩

end Go.Proofs.YtiahfiopigjolaaGreat
