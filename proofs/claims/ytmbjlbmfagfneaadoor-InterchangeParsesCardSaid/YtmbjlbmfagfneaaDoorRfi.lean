/- first of the reference. -/
import Derived.Test.YtmbjlbmfagfneaaDoorRse
namespace Go.Proofs.YtmbjlbmfagfneaaDoor
open Go Go.RowKit

theorem grown_drew {w w' : World} {row : Option Nat} (h : w.grownBy w' row) : w.grownBy w'.drew row := ⟨h.os, h.tape, h.output, h.size, h.block⟩

set_option maxHeartbeats 1000000 in
theorem c_rfirst (B : Nat) (row : Option Nat) (m : Mk) (sv pv v : Value) (x : ByteArray) (r : List ByteArray) (w : World) (_hB : B ≤ w.heap.size) (hsv : OwnL .i64 3 B w sv m.sizes) (hpv : OwnP B w pv m.places) (h : RdS w v (x :: r)) (hs : ∀ y ∈ r, y.size ≤ 30000) (hl : r.length ≤ 100000) :
    Calls Tryd.prog 38 #[mkV m sv pv, v] w (RefEnd B row (rdHead m (bs x) (r.map bs)) w) := by
  obtain ⟨A, cap, rfl⟩ : ∃ A cap, v = .slice A (r.length + 1) cap := by
    obtain ⟨A, cap, e, _⟩ := h; exact ⟨A, cap, e⟩
  obtain ⟨b, o, rfl, hx0, hc1, hc2, ht⟩ := h.tail
  clear h
  unfold maxLen at hc2
  obtain ⟨As, cs, rfl⟩ := hsv.slice
  obtain ⟨Ap, cp, rfl⟩ := hpv.slice
  obtain ⟨wA, hwA⟩ : ∃ wA, wA = (w.alloc (.cells (mkA m (.slice As m.sizes.length cs) (.slice Ap m.places.length cp)) 27)).alloc (.cells (mkA Mk.zero (.slice none 0 0) (.slice none 0 0)) 27) := ⟨_, rfl⟩
  have hq := Lib.hid (show Blk wA w.heap.size 27 (mkA m (.slice As m.sizes.length cs) (.slice Ap m.places.length cp)) from hwA ▸ (Blk.new w 27 _).alloc _)
  have hz := Lib.hid (show Blk wA (w.heap.size + 1) 27 (mkA Mk.zero (.slice none 0 0) (.slice none 0 0)) from hwA ▸ Blk.at (by simp))
  have hE := Lib.hid (show Ext w wA from hwA ▸ ((Ext.refl w).alloc _).alloc _)
  have hsA := Lib.hid (hsv.ext hE.out)
  have hpA := Lib.hid (hpv.ext hE.out)
  have htA := Lib.hid (ht.ext hE.out)
  have hxA := hE.out.cell hx0
  clear hsv hpv ht
  unfold mkA Mk.zero at hwA
  replace hwA := Lib.hid hwA
  unfold mkV
  go_enter Tryd.func38, Tryd.ntmps38
  go_wp2_with fail
  all_goals
    rw [← hwA.out]
    refine (c_rnumbers _ r _ (by first | exact htA.out | exact RdS.tail0 (by omega)) hs hl).mono ?_
    rintro e w1 hno
    obtain ⟨hX, hno⟩ := hno
    have hq1 := hq.out.ext hX
    have hz1 := hz.out.ext hX
    have hx1 := hX.cell hxA
    have hB1 := Lib.hid (grown_of_ext (hE.out.trans hX) row)
    have hsX := Lib.hid (hsA.out.ext hX)
    have hpX := Lib.hid (hpA.out.ext hX)
    obtain ⟨⟨q0, q1, q2, q3, q4, q5⟩, ⟨f0, f1, f2, f3, f4, f5⟩, hlt⟩ := hq1.parts6
    obtain ⟨⟨p0, p1, p2, p3, p4, p5⟩, ⟨e0, e1, e2, e3, e4, e5⟩, plt⟩ := hz1.parts6
    replace hq1 := Lib.hid hq1
    replace hz1 := Lib.hid hz1
    have hss := Lib.hid hX.size
    replace hX := Lib.hid hX
    have hne1 : ¬ w.heap.size = w.heap.size + 1 := by omega
    rcases hw : (x.toList == [109, 97, 114, 107, 101, 114]) with _ | _
    · rcases hno with ⟨hno, rfl⟩ | ⟨l, zs, nv, hnu, hsat, rfl, hown⟩
      case' inr => obtain ⟨A', cap', rfl⟩ := hown.slice; replace hown := Lib.hid hown; replace hnu := Lib.hid hnu; replace hsat := Lib.hid hsat
      case' inl => replace hno := Lib.hid hno
      all_goals
        go_wp2
        refine ref_end rfl (by first | exact .inl rfl | exact .inr rfl) (m := m) rfl rfl rfl (hz1.out.six (m' := m)) ?_
        exact RefEnd.err (head_word (word_ne hw)) (grown_six hB1.out (by omega) _ _ _ _ _ _)
    · rcases hno with ⟨hno, rfl⟩ | ⟨l, zs, nv, hnu, hsat, rfl, hown⟩
      · replace hno := Lib.hid hno
        go_wp2
        refine ref_end rfl (by first | exact .inl rfl | exact .inr rfl) (m := m) rfl rfl rfl (hz1.out.six (m' := m)) ?_
        exact RefEnd.err (head_no hno.out) (grown_six hB1.out (by omega) _ _ _ _ _ _)
      · obtain ⟨A', cap', rfl⟩ := hown.slice
        replace hown := Lib.hid hown
        replace hnu := Lib.hid hnu
        replace hsat := Lib.hid hsat
        by_cases h4 : zs.length = 4
        rotate_left
        · go_wp2
          refine ref_end rfl (by first | exact .inl rfl | exact .inr rfl) (m := m) rfl rfl rfl (hz1.out.six (m' := m)) ?_
          exact RefEnd.err (head_len hnu.out (by rw [hsat.out.1]; exact h4)) (grown_six hB1.out (by omega) _ _ _ _ _ _)
        · have hr4 : r.length = 4 := by rw [← List.length_map bs, nums_length hnu.out, hsat.out.1, h4]
          try (exfalso; omega)
          all_goals
            obtain ⟨a, b', c, d, rfl⟩ := four_of h4
            clear h4
            obtain ⟨A2, cap2, e2, hcap, hmax, hcs⟩ := hown.out.rdI
            injection e2 with e2 _ e3
            subst e2; subst e3
            obtain ⟨g, o', rfl, c0⟩ := hcs 0 (by simp)
            have c1 : w1.cell? ⟨g, o' + 1, none⟩ = some (.int .i64 b') := by
              obtain ⟨_, _, e, hc⟩ := hcs 1 (by simp)
              cases e; exact hc
            have c2 : w1.cell? ⟨g, o' + 2, none⟩ = some (.int .i64 c) := by
              obtain ⟨_, _, e, hc⟩ := hcs 2 (by simp)
              cases e; exact hc
            have c3 : w1.cell? ⟨g, o' + 3, none⟩ = some (.int .i64 d) := by
              obtain ⟨_, _, e, hc⟩ := hcs 3 (by simp)
              cases e; exact hc
            replace c0 : w1.cell? ⟨g, o', none⟩ = some (.int .i64 a) := by simpa using c0
            clear hcs
            have hgq : ¬ g = w.heap.size := by
              have h1 := hown.out.base g rfl
              have h2 := hq.out.lt
              omega
            have hqg : ¬ w.heap.size = g := fun h => hgq h.symm
            obtain ⟨a0, b0, c0', d0, hl4⟩ := four_of (l := l) hsat.out.1
            subst hl4
            have hsd := Lib.hid (satL_all hsat.out (lo := 0) (hi := 1048576) (by decide) (by decide))
            go_wp2_with fail
            refine (c_rall _ _ _ [a, b', c, d] _ hown.out.rdI).mono ?_
            rintro e w2 ⟨rfl, rfl⟩
            rcases ha : [a, b', c, d].all (inR 0 1048576) with _ | _
            · go_wp2
              refine ref_end rfl (by first | exact .inl rfl | exact .inr rfl) (m := m) rfl rfl rfl (hz1.out.six (m' := m)) ?_
              refine RefEnd.err ?_ (grown_six hB1.out (by omega) _ _ _ _ _ _)
              rw [head_four hnu.out (word_eq hw), if_neg]
              rw [headOk_all, ← hsd.out.1, ha]; exact Bool.false_ne_true
            · have hall : [a0, b0, c0', d0].all (inR 0 1048576) = true := by rw [← hsd.out.1, ha]
              have heq := hsd.out.2 hall
              injection heq with t0 heq
              injection heq with t1 heq
              injection heq with t2 heq
              injection heq with t3 heq
              subst t0; subst t1; subst t2; subst t3
              have hok := Lib.hid (show headOk a b' c d = true by rw [headOk_all]; exact hall)
              replace ha := Lib.hid ha
              clear hsd hall
              go_wp2
              go_region
              obtain ⟨w2, hw2⟩ : ∃ w2, w2 = (((((w1.setCell ⟨w.heap.size, 0, none⟩ (.int .i64 a)).setCell ⟨w.heap.size, 1, none⟩ (.int .i64 b')).setCell ⟨w.heap.size, 2, none⟩ (.int .i64 c)).setCell ⟨w.heap.size, 3, none⟩ (.int .i64 d)).drew) := ⟨_, rfl⟩
              have hgr : w1.grownBy w2 (some w.heap.size) := by
                rw [hw2]
                exact grown_drew ((((grown_set _ 0 _).trans (grown_set _ 1 _)).trans (grown_set _ 2 _)).trans (grown_set _ 3 _))
              have hq2 := show Blk w2 w.heap.size 27 (mkA { m with len := a, wid := b', rx := c, ry := d } (.slice As m.sizes.length cs) (.slice Ap m.places.length cp)) from hw2 ▸ ((((hq1.out.set_ 0 _).set_ 1 _).set_ 2 _).set_ 3 _)
              have hz2 := hz1.out.grown hgr (by simp)
              have hs2 := Lib.hid (hsX.out.kept hgr (.inr (row_ne hsX.out hq1.out (by decide))))
              have hp2 := Lib.hid (hpX.out.kept hgr (.inr (row_ne hpX.out hq1.out (by decide))))
              have hB2 := Lib.hid (show w.grownBy w2 row from hw2 ▸ grown_drew (grown_put (grown_put (grown_put (grown_put hB1.out (p := ⟨w.heap.size, 0, none⟩) (Nat.le_refl _) _) (p := ⟨w.heap.size, 1, none⟩) (Nat.le_refl _) _) (p := ⟨w.heap.size, 2, none⟩) (Nat.le_refl _) _) (p := ⟨w.heap.size, 3, none⟩) (Nat.le_refl _) _))
              rw [← hw2]
              clear hw2 c0 c1 c2 c3 q0 q1 q2 q3 q4 q5 f0 f1 f2 f3 f4 f5 p0 p1 p2 p3 p4 p5 e0 e1 e2 e3 e4 e5 hlt plt hgr
              obtain ⟨⟨q0, q1, q2, q3, q4, q5⟩, _, hlt⟩ := hq2.parts6
              obtain ⟨⟨p0, p1, p2, p3, p4, p5⟩, ⟨e0, e1, e2, e3, e4, e5⟩, plt⟩ := hz2.parts6
              replace hq2 := Lib.hid hq2
              replace hz2 := Lib.hid hz2
              go_wp2
              refine ref_end rfl (by first | exact .inl rfl | exact .inr rfl) (m := { m with len := a, wid := b', rx := c, ry := d }) rfl rfl rfl (hz2.out.six (m' := { m with len := a, wid := b', rx := c, ry := d })) ?_
              refine RefEnd.ok (m' := { m with len := a, wid := b', rx := c, ry := d }) ?_ (grown_six hB2.out (by omega) _ _ _ _ _ _) ?_ ?_
              · rw [head_four hnu.out (word_eq hw), if_pos hok.out]
              · exact hs2.out.kept (grown6 _ _ _ _ _ _) (.inr (row_ne hs2.out hz2.out (by decide)))
              · exact hp2.out.kept (grown6 _ _ _ _ _ _) (.inr (row_ne hp2.out hz2.out (by decide)))

end Go.Proofs.YtmbjlbmfagfneaaDoor
