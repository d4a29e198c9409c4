/- read of the reference. -/
import Derived.Test.YtmbjlbmfagfneaaDoorRpl
namespace Go.Proofs.YtmbjlbmfagfneaaDoor
open Go Go.RowKit

/-- a read's end: the marker as a value with two slices; what is still to be said of it -/
theorem RefEnd.shape {B : Nat} {row : Option Nat} {r : Except Int Mk} {w w' : World} {e : Ending} (h : RefEnd B row r w e w') : ∃ m2 A1 n1 k1 A2 n2 k2 c, e = .returned (.tuple #[mkV m2 (.slice A1 n1 k1) (.slice A2 n2 k2), .int .i64 c]) ∧
    ((r = .error c) ∨ (r = .ok m2 ∧ c = 0 ∧ OwnL .i64 3 B w' (.slice A1 n1 k1) m2.sizes ∧ OwnP B w' (.slice A2 n2 k2) m2.places)) := by
  obtain ⟨_, h⟩ := h
  cases r with
  | error n =>
    obtain ⟨m0, A, n1, c, A', n2, c', rfl⟩ := h
    exact ⟨m0, A, n1, c, A', n2, c', n, rfl, .inl rfl⟩
  | ok m' =>
    obtain ⟨sv, pv, rfl, h1, h2⟩ := h
    obtain ⟨A1, k1, rfl⟩ := h1.slice
    obtain ⟨A2, k2, rfl⟩ := h2.slice
    exact ⟨m', A1, _, k1, A2, _, k2, 0, rfl, .inr ⟨rfl, rfl, h1, h2⟩⟩

theorem RefEnd.again {B g : Nat} {row : Option Nat} {r : Except Int Mk} {w w2 : World} {m2 : Mk} {A1 A2 : Option Addr} {n1 k1 n2 k2 : Nat} {c : Int} {cz : Array Value}
    (h : (r = .error c) ∨ (r = .ok m2 ∧ c = 0 ∧ OwnL .i64 3 B w2 (.slice A1 n1 k1) m2.sizes ∧ OwnP B w2 (.slice A2 n2 k2) m2.places)) (hB : w.grownBy w2 row) (hg : w.heap.size ≤ g) (hz : Blk w2 g 27 cz) :
    RefEnd B row r w (.returned (.tuple #[mkV m2 (.slice A1 n1 k1) (.slice A2 n2 k2), .int .i64 c]))
      ((((((w2.setCell ⟨g, 0, none⟩ (.int .i64 m2.len)).setCell ⟨g, 1, none⟩ (.int .i64 m2.wid)).setCell ⟨g, 2, none⟩ (.int .i64 m2.rx)).setCell ⟨g, 3, none⟩ (.int .i64 m2.ry)).setCell ⟨g, 4, none⟩ (.slice A1 n1 k1)).setCell ⟨g, 5, none⟩ (.slice A2 n2 k2)) := by
  have hb := grown_six hB hg (.int .i64 m2.len) (.int .i64 m2.wid) (.int .i64 m2.rx) (.int .i64 m2.ry) (.slice A1 n1 k1) (.slice A2 n2 k2)
  rcases h with rfl | ⟨rfl, rfl, h1, h2⟩
  · exact ⟨hb, m2, A1, n1, k1, A2, n2, k2, rfl⟩
  · exact ⟨hb, _, _, rfl, h1.kept (grown6 _ _ _ _ _ _) (.inr (row_ne h1 hz (by decide))), h2.kept (grown6 _ _ _ _ _ _) (.inr (row_ne h2 hz (by decide)))⟩

set_option maxHeartbeats 1000000 in
theorem c_rread (B : Nat) (m : Mk) (sv pv : Value) (line : Nat) (s : ByteArray) (w : World) (hB : B ≤ w.heap.size) (hsv : OwnL .i64 3 B w sv m.sizes) (hpv : OwnP B w pv m.places) (hs : s.size ≤ 30000) :
    Calls Tryd.prog 28 #[mkV m sv pv, .int .i64 (line : Nat), .string s] w (RefEnd B pv.ownBlock (rdLine m line (bs s)) w) := by
  obtain ⟨As, cs, rfl⟩ := hsv.slice
  obtain ⟨Ap, cp, rfl⟩ := hpv.slice
  obtain ⟨wA, hwA⟩ : ∃ wA, wA = (w.alloc (.cells (mkA m (.slice As m.sizes.length cs) (.slice Ap m.places.length cp)) 27)).alloc (.cells (mkA Mk.zero (.slice none 0 0) (.slice none 0 0)) 27) := ⟨_, rfl⟩
  have hq := Lib.hid (show Blk wA w.heap.size 27 (mkA m (.slice As m.sizes.length cs) (.slice Ap m.places.length cp)) from hwA ▸ (Blk.new w 27 _).alloc _)
  have hz := Lib.hid (show Blk wA (w.heap.size + 1) 27 (mkA Mk.zero (.slice none 0 0) (.slice none 0 0)) from hwA ▸ Blk.at (by simp))
  have hE := Lib.hid (show Ext w wA from hwA ▸ ((Ext.refl w).alloc _).alloc _)
  have hsA := Lib.hid (hsv.ext hE.out)
  have hpA := Lib.hid (hpv.ext hE.out)
  clear hsv hpv
  unfold mkA Mk.zero at hwA
  replace hwA := Lib.hid hwA
  unfold mkV
  go_enter Tryd.func28, Tryd.ntmps28
  go_wp2_with fail
  rw [← hwA.out]
  refine (c_rsplit s _ (by omega)).mono ?_
  rintro e w1 ⟨v, ws, rfl, hrd, hws, hX⟩
  obtain ⟨x, r, rfl⟩ : ∃ x r, ws = x :: r := by
    cases ws with
    | nil => exact absurd hws.symm (cuts_ne_nil _ _)
    | cons x r => exact ⟨x, r, rfl⟩
  have hr : rdLine m line (bs s) = if line = 1 then rdHead m (bs x) (r.map bs) else if line = 2 then rdSizes m (bs x) (r.map bs) else rdPlace m (bs x) (r.map bs) := by
    unfold rdLine
    rw [← hws]; rfl
  have hsz : ∀ y ∈ r, y.size ≤ 30000 := fun y hy => by
    have := cuts_len_le 32 (bs s) (bs y) (by rw [← hws]; exact List.mem_map.2 ⟨y, List.mem_cons_of_mem _ hy, rfl⟩)
    rw [bs_len, bs_len] at this
    omega
  have hln : r.length ≤ 100000 := by
    have h1 := cuts_length 32 (bs s)
    rw [← hws, List.length_map, List.length_cons] at h1
    have h2 : (bs s).count 32 ≤ (bs s).length := List.count_le_length
    rw [bs_len] at h2
    omega
  have hq1 := hq.out.ext hX
  have hz1 := Lib.hid (hz.out.ext hX)
  have hsX := Lib.hid (hsA.out.ext hX)
  have hpX := Lib.hid (hpA.out.ext hX)
  have hEX := Lib.hid (hE.out.trans hX)
  have hB1 := Lib.hid (Nat.le_trans hB hEX.out.size)
  have hnz := Lib.hid (row_ne hpX.out hz1.out (by decide))
  obtain ⟨⟨q0, q1, q2, q3, q4, q5⟩, _, hlt1⟩ := hq1.parts6
  replace hq1 := Lib.hid hq1
  replace hrd := Lib.hid hrd
  replace hws := Lib.hid hws
  replace hX := Lib.hid hX
  replace hsz := Lib.hid hsz
  replace hr := Lib.hid hr
  by_cases h1 : line = 1
  · subst h1
    go_wp2_with fail
    refine (c_rfirst B (Value.ownBlock (.slice Ap m.places.length cp)) m _ _ v x r _ hB1.out hsX.out hpX.out hrd.out hsz.out hln).mono ?_
    intro e w2 he
    have hgr := he.1
    obtain ⟨m2, A1, n1, k1, A2, n2, k2, c, rfl, hfin⟩ := he.shape
    have hz2 := hz1.out.grown hgr (fun t => hnz.out t.symm)
    replace hgr := Lib.hid (grown_after hEX.out hgr)
    replace hfin := Lib.hid hfin
    clear he
    obtain ⟨⟨p0, p1, p2, p3, p4, p5⟩, ⟨e0, e1, e2, e3, e4, e5⟩, plt⟩ := hz2.parts6
    replace hz2 := Lib.hid hz2
    unfold mkV
    go_wp2
    refine ref_end rfl (by first | exact .inl rfl | exact .inr rfl) (m := m2) rfl rfl rfl (hz2.out.six (m' := m2)) ?_
    rw [hr.out, if_pos (by trivial)]
    exact RefEnd.again hfin.out hgr.out (Nat.le_succ _) hz2.out
  · by_cases h2 : line = 2
    · subst h2
      go_wp2_with fail
      refine (c_rsecond B (Value.ownBlock (.slice Ap m.places.length cp)) m _ _ v x r _ hB1.out hsX.out hpX.out hrd.out hsz.out hln).mono ?_
      intro e w2 he
      have hgr := he.1
      obtain ⟨m2, A1, n1, k1, A2, n2, k2, c, rfl, hfin⟩ := he.shape
      have hz2 := hz1.out.grown hgr (fun t => hnz.out t.symm)
      replace hgr := Lib.hid (grown_after hEX.out hgr)
      replace hfin := Lib.hid hfin
      clear he
      obtain ⟨⟨p0, p1, p2, p3, p4, p5⟩, ⟨e0, e1, e2, e3, e4, e5⟩, plt⟩ := hz2.parts6
      replace hz2 := Lib.hid hz2
      unfold mkV
      go_wp2
      refine ref_end rfl (by first | exact .inl rfl | exact .inr rfl) (m := m2) rfl rfl rfl (hz2.out.six (m' := m2)) ?_
      rw [hr.out, if_neg (by decide), if_pos (by trivial)]
      exact RefEnd.again hfin.out hgr.out (Nat.le_succ _) hz2.out
    · go_wp2_with fail
      refine (c_rplace B m _ _ v x r _ hB1.out hsX.out hpX.out hrd.out hsz.out hln).mono ?_
      intro e w2 he
      have hgr := he.1
      obtain ⟨m2, A1, n1, k1, A2, n2, k2, c, rfl, hfin⟩ := he.shape
      have hz2 := hz1.out.grown hgr (fun t => hnz.out t.symm)
      replace hgr := Lib.hid (grown_after hEX.out hgr)
      replace hfin := Lib.hid hfin
      clear he
      obtain ⟨⟨p0, p1, p2, p3, p4, p5⟩, ⟨e0, e1, e2, e3, e4, e5⟩, plt⟩ := hz2.parts6
      replace hz2 := Lib.hid hz2
      unfold mkV
      go_wp2
      refine ref_end rfl (by first | exact .inl rfl | exact .inr rfl) (m := m2) rfl rfl rfl (hz2.out.six (m' := m2)) ?_
      rw [hr.out, if_neg h1, if_neg h2]
      exact RefEnd.again hfin.out hgr.out (Nat.le_succ _) hz2.out

end Go.Proofs.YtmbjlbmfagfneaaDoor
