/- second of the reference. -/
import Derived.Test.YtmbjlbmfagfneaaDoorRsp
namespace Go.Proofs.YtmbjlbmfagfneaaDoor
open Go Go.RowKit

/-- how a read of a line by the reference ends -/
def RefEnd (B : Nat) (row : Option Nat) (r : Except Int Mk) (w : World) (e : Ending) (w' : World) : Prop :=
  w.grownBy w' row ∧ match r with
  | .error n => ∃ m0 A n1 c A' n2 c', e = .returned (.tuple #[mkV m0 (.slice A n1 c) (.slice A' n2 c'), .int .i64 n])
  | .ok m' => ∃ sv pv, e = .returned (.tuple #[mkV m' sv pv, .int .i64 0]) ∧ OwnL .i64 3 B w' sv m'.sizes ∧ OwnP B w' pv m'.places
theorem RefEnd.err {B : Nat} {row : Option Nat} {r : Except Int Mk} {w w' : World} {n : Int} {m0 : Mk} {A A' : Option Addr} {n1 c n2 c' : Nat} (hr : r = .error n) (hb : w.grownBy w' row) : RefEnd B row r w (.returned (.tuple #[mkV m0 (.slice A n1 c) (.slice A' n2 c'), .int .i64 n])) w' := by
  subst hr; exact ⟨hb, m0, A, n1, c, A', n2, c', rfl⟩
theorem RefEnd.ok {B : Nat} {row : Option Nat} {r : Except Int Mk} {w w' : World} {m' : Mk} {sv pv : Value} (hr : r = .ok m') (hb : w.grownBy w' row) (h1 : OwnL .i64 3 B w' sv m'.sizes) (h2 : OwnP B w' pv m'.places) : RefEnd B row r w (.returned (.tuple #[mkV m' sv pv, .int .i64 0])) w' := by
  subst hr; exact ⟨hb, sv, pv, rfl, h1, h2⟩

/-- the end of a function whose results are a marker in a cell and a number in a slot -/
theorem ref_end {fn : Func} {p u : Tmp} (hres : fn.results = #[.cell p 27, .tmp u]) {R : Ending → World → Prop} {ex : Exit} (hex : ex = .ret ∨ ex = .normal) {a : Act} {w' : World} {m : Mk} {sv pv : Value} {c : Int} {g : Nat} (hd : a.defers = []) (h2 : a.tmps.getD p undef = .pointer (some ⟨g, 0, none⟩))
    (h3 : a.tmps.getD u undef = .int .i64 c) (hb : Blk w' g 27 (mkA m sv pv)) (h : R (.returned (.tuple #[mkV m sv pv, .int .i64 c])) w') :
    bodyPost Tryd.prog fn R ex a w' := by
  obtain ⟨⟨q0, q1, q2, q3, q4, q5⟩, _, _⟩ := hb.parts6
  have key : bodyPost Tryd.prog fn R .ret a w' := by
    refine ⟨hd, .tuple #[mkV m sv pv, .int .i64 c], ?_, h⟩
    rw [results_cell_tmp hres, h2, h3]
    unfold mkV
    go_simp
  rcases hex with rfl | rfl
  · exact key
  · exact key

theorem grown_of_ext {w w' : World} (h : Ext w w') (row : Option Nat) : w.grownBy w' row := ⟨h.below.os, h.below.tape, h.below.output, h.size, fun i hi _ => h.below.block i hi⟩
theorem grown_put {w w' : World} {row : Option Nat} (h : w.grownBy w' row) {p : Addr} (hp : w.heap.size ≤ p.block) (u : Value) : w.grownBy (w'.setCell p u) row :=
  ⟨h.os, h.tape, h.output, Nat.le_trans h.size (by simp [World.setCell]), fun i hi hne => (Below.heap_setCell w' p u i (fun e => by omega)).trans (h.block i hi hne)⟩
theorem grown_six {g : Nat} {w w' : World} {row : Option Nat} (h : w.grownBy w' row) (hg : w.heap.size ≤ g) (a b c d e f : Value) :
    w.grownBy ((((((w'.setCell ⟨g, 0, none⟩ a).setCell ⟨g, 1, none⟩ b).setCell ⟨g, 2, none⟩ c).setCell ⟨g, 3, none⟩ d).setCell ⟨g, 4, none⟩ e).setCell ⟨g, 5, none⟩ f) row :=
  grown_put (grown_put (grown_put (grown_put (grown_put (grown_put h (p := ⟨g, 0, none⟩) hg a) (p := ⟨g, 1, none⟩) hg b) (p := ⟨g, 2, none⟩) hg c) (p := ⟨g, 3, none⟩) hg d) (p := ⟨g, 4, none⟩) hg e) (p := ⟨g, 5, none⟩) hg f

set_option maxHeartbeats 1000000 in
theorem c_rsecond (B : Nat) (row : Option Nat) (m : Mk) (sv pv v : Value) (x : ByteArray) (r : List ByteArray) (w : World) (hB : B ≤ w.heap.size) (hsv : OwnL .i64 3 B w sv m.sizes) (hpv : OwnP B w pv m.places) (h : RdS w v (x :: r)) (hs : ∀ y ∈ r, y.size ≤ 30000) (hl : r.length ≤ 100000) :
    Calls Tryd.prog 39 #[mkV m sv pv, v] w (RefEnd B row (rdSizes m (bs x) (r.map bs)) w) := by
  obtain ⟨A, cap, rfl⟩ : ∃ A cap, v = .slice A (r.length + 1) cap := by
    obtain ⟨A, cap, e, _⟩ := h; exact ⟨A, cap, e⟩
  obtain ⟨b, o, rfl, hx0, hc1, hc2, ht⟩ := h.tail
  clear h
  unfold maxLen at hc2
  obtain ⟨As, cs, rfl⟩ := hsv.slice
  obtain ⟨Ap, cp, rfl⟩ := hpv.slice
  obtain ⟨wA, hwA⟩ : ∃ wA, wA = (w.alloc (.cells (mkA m (.slice As m.sizes.length cs) (.slice Ap m.places.length cp)) 27)).alloc (.cells (mkA Mk.zero (.slice none 0 0) (.slice none 0 0)) 27) := ⟨_, rfl⟩
  have hq := Lib.hid (show Blk wA w.heap.size 27 (mkA m (.slice As m.sizes.length cs) (.slice Ap m.places.length cp)) from hwA ▸ (Blk.new w 27 _).alloc _)
  have hz := Lib.hid (show Blk wA (w.heap.size + 1) 27 (mkA Mk.zero (.slice none 0 0) (.slice none 0 0)) from hwA ▸ Blk.at (by simp))
  have hE := Lib.hid (show Ext w wA from hwA ▸ ((Ext.refl w).alloc _).alloc _)
  have hsA := Lib.hid (hsv.ext hE.out)
  have hpA := Lib.hid (hpv.ext hE.out)
  have htA := Lib.hid (ht.ext hE.out)
  have hxA := hE.out.cell hx0
  clear hsv hpv ht
  unfold mkA Mk.zero at hwA
  replace hwA := Lib.hid hwA
  unfold mkV
  go_enter Tryd.func39, Tryd.ntmps39
  go_wp2_with fail
  all_goals
    rw [← hwA.out]
    refine (c_rnumbers _ r _ (by first | exact htA.out | exact RdS.tail0 (by omega)) hs hl).mono ?_
    rintro e w1 hno
    obtain ⟨hX, hno⟩ := hno
    have hq1 := hq.out.ext hX
    have hz1 := hz.out.ext hX
    have hx1 := hX.cell hxA
    have hB1 := Lib.hid (grown_of_ext (hE.out.trans hX) row)
    have hsX := Lib.hid (hsA.out.ext hX)
    have hpX := Lib.hid (hpA.out.ext hX)
    obtain ⟨⟨q0, q1, q2, q3, q4, q5⟩, ⟨f0, f1, f2, f3, f4, f5⟩, hlt⟩ := hq1.parts6
    obtain ⟨⟨p0, p1, p2, p3, p4, p5⟩, ⟨e0, e1, e2, e3, e4, e5⟩, plt⟩ := hz1.parts6
    replace hq1 := Lib.hid hq1
    replace hz1 := Lib.hid hz1
    have hss := Lib.hid hX.size
    replace hX := Lib.hid hX
    have hne1 : ¬ w.heap.size = w.heap.size + 1 := by omega
    rcases hw : (x.toList == [115, 105, 122, 101, 115]) with _ | _
    · rcases hno with ⟨hno, rfl⟩ | ⟨l, zs, nv, hnu, hsat, rfl, hown⟩
      case' inr => obtain ⟨A', cap', rfl⟩ := hown.slice; replace hown := Lib.hid hown; replace hnu := Lib.hid hnu; replace hsat := Lib.hid hsat
      case' inl => replace hno := Lib.hid hno
      all_goals
        go_wp2
        refine ref_end rfl (by first | exact .inl rfl | exact .inr rfl) (m := m) rfl rfl rfl (hz1.out.six (m' := m)) ?_
        exact RefEnd.err (sizes_word (word_ne hw)) (grown_six hB1.out (by omega) _ _ _ _ _ _)
    · rcases hno with ⟨hno, rfl⟩ | ⟨l, zs, nv, hnu, hsat, rfl, hown⟩
      · replace hno := Lib.hid hno
        go_wp2
        refine ref_end rfl (by first | exact .inl rfl | exact .inr rfl) (m := m) rfl rfl rfl (hz1.out.six (m' := m)) ?_
        exact RefEnd.err (sizes_no hno.out) (grown_six hB1.out (by omega) _ _ _ _ _ _)
      · obtain ⟨A', cap', rfl⟩ := hown.slice
        replace hown := Lib.hid hown
        replace hnu := Lib.hid hnu
        replace hsat := Lib.hid hsat
        go_wp2_with fail
        refine (c_rall _ _ _ zs _ hown.out.rdI).mono ?_
        rintro e w2 ⟨rfl, rfl⟩
        rcases ha : zs.all (inR 0 1048576) with _ | _
        · go_wp2
          refine ref_end rfl (by first | exact .inl rfl | exact .inr rfl) (m := m) rfl rfl rfl (hz1.out.six (m' := m)) ?_
          exact RefEnd.err (sizes_range (word_eq hw) hnu.out (by rw [← (satL_all hsat.out (by decide) (by decide)).1]; exact ha)) (grown_six hB1.out (by omega) _ _ _ _ _ _)
        · have hz' := satL_all hsat.out (lo := 0) (hi := 1048576) (by decide) (by decide)
          have hzl : zs = l := hz'.2 (by rw [← hz'.1]; exact ha)
          subst hzl
          replace ha := Lib.hid ha
          clear hz'
          by_cases h6 : 6 < zs.length
          · go_wp2
            refine ref_end rfl (by first | exact .inl rfl | exact .inr rfl) (m := m) rfl rfl rfl (hz1.out.six (m' := m)) ?_
            exact RefEnd.err (sizes_long (word_eq hw) hnu.out ha.out h6) (grown_six hB1.out (by omega) _ _ _ _ _ _)
          · go_wp2
            have hoB := hown.out.mono (B' := B) (Nat.le_trans hB hE.out.size)
            refine ref_end rfl (by first | exact .inl rfl | exact .inr rfl) (m := { m with sizes := zs }) rfl rfl rfl ((hz1.out.far (p := ⟨w.heap.size, 4, none⟩) (by simp) _).six (m' := { m with sizes := zs })) ?_
            refine RefEnd.ok (sizes_ok (word_eq hw) hnu.out ha.out h6) (grown_six (grown_put hB1.out (p := ⟨w.heap.size, 4, none⟩) (Nat.le_refl _) _) (by omega) _ _ _ _ _ _) ?_ ?_
            · exact (hoB.kept (grown_set w.heap.size 4 _) (.inr (row_ne hoB hq1.out (by decide)))).kept (grown6 _ _ _ _ _ _) (.inr (row_ne hoB hz1.out (by decide)))
            · exact (hpX.out.kept (grown_set w.heap.size 4 _) (.inr (row_ne hpX.out hq1.out (by decide)))).kept (grown6 _ _ _ _ _ _) (.inr (row_ne hpX.out hz1.out (by decide)))

end Go.Proofs.YtmbjlbmfagfneaaDoor
