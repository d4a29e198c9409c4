/- The chapter's examples. -/
import Derived.Test.YtmbjlbmfagfneaaDoorSam
namespace Go.Proofs.YtmbjlbmfagfneaaDoor
open Go Go.RowKit

def m0 : Mk := ⟨60, 40, 0, 10, [1, 0], [⟨0, 0, 0, false, 0, 0, 0⟩, ⟨1, 2, 1, true, 3, -5, 17⟩]⟩
def t0 : B := [109, 97, 114, 107, 101, 114, 32, 54, 48, 32, 52, 48, 32, 48, 32, 49, 48, 10, 115, 105, 122, 101, 115, 32, 49, 32, 48, 10, 112, 108, 97, 99, 101, 32, 48, 32, 48, 32, 48, 32, 48, 32, 48, 32, 48, 10, 112, 108, 97, 99, 101, 32, 49, 32, 50, 32, 49, 32, 102, 108, 105, 112, 32, 51, 32, 45, 53, 32, 49, 55, 10]
def t1 : B := [109, 97, 114, 107, 101, 114, 32, 49, 32, 49, 32, 48, 32, 48, 10]
def t2 : B := [109, 97, 114, 107, 101, 114, 32, 49, 32, 49, 32, 48, 32, 48]
def t3 : B := [109, 97, 114, 107, 101, 114, 32, 49, 32, 49, 32, 48, 32, 48, 10, 115, 105, 122, 101, 115, 10, 112, 108, 97, 99, 101, 32, 48, 32, 48, 32, 48, 32, 52, 32, 48, 32, 48, 10]

set_option maxRecDepth 10000 in
theorem parse_t0 : parse t0 = (m0, 0, 0) := by decide
set_option maxRecDepth 10000 in
theorem parse_t1 : parse t1 = (Mk.zero, 4, 2) := by decide
set_option maxRecDepth 10000 in
theorem parse_t2 : parse t2 = (Mk.zero, 2, 1) := by decide
set_option maxRecDepth 10000 in
theorem parse_t3 : parse t3 = (Mk.zero, 3, 3) := by decide
theorem print_m0 : print m0 = (t0, 0) := (again parse_t0 rfl).1
theorem print_m1 : print ⟨-1, 0, 0, 0, [], []⟩ = ([], 3) := print_bad (by decide) (by decide) (by decide)

theorem ParOut.open_ {r : Mk × Int × Nat} {m : Mk} {c : Int} {l : Nat} {w w' : World} {e : Ending} (h : ParOut r w e w') (hr : r = (m, c, l)) : ∃ sv pv, e = .returned (.tuple #[mkV m sv pv, .int .i64 c, .int .i64 (l : Nat)]) ∧ RdI w' sv m.sizes ∧ RdP w' pv m.places ∧ Ext w w' := by
  subst hr
  obtain ⟨v, rfl, ⟨sv, pv, rfl, h1, h2⟩, h3⟩ := h
  exact ⟨sv, pv, rfl, h1, h2, h3⟩
theorem PriOut.open_ {m : Mk} {t : B} {c : Int} {w w' : World} {e : Ending} (h : PriOut m w e w') (hr : print m = (t, c)) : e = .returned (.tuple #[.string (ofB t), .int .i64 c]) ∧ Ext w w' := by
  unfold PriOut at h; rw [hr] at h; exact h

theorem RdP.slice {w : World} {v : Value} {l : List Pl} (h : RdP w v l) : ∃ A cap, v = .slice A l.length cap := by
  obtain ⟨A, cap, e, _⟩ := h; exact ⟨A, cap, e⟩

theorem rdP_two {w : World} {g : Nat} {p q : Pl} (h : Blk w g 46 (cellsP [p, q]).toArray) : RdP w (.slice (some ⟨g, 0, none⟩) 2 2) [p, q] := by
  refine ⟨_, 2, rfl, by simp, by simp [maxLen], fun j hj => ⟨g, 0, rfl, ?_⟩⟩
  have hj : j < 2 := hj
  match j, hj with
  | 0, _ => exact ⟨h.cell 0, h.cell 1, h.cell 2, h.cell 3, h.cell 4, h.cell 5, h.cell 6⟩
  | 1, _ => exact ⟨h.cell 7, h.cell 8, h.cell 9, h.cell 10, h.cell 11, h.cell 12, h.cell 13⟩

set_option maxHeartbeats 1000000 in
theorem c_awake (w : World) (ht : Tab w) : Calls Tryd.prog 10 #[] w fun e w' => e = .returned (.bool true) ∧ Ext w w' := by
  replace ht := Lib.hid ht
  go_enter Tryd.func10, Tryd.ntmps10
  go_wp2_with fail
  obtain ⟨wA, hwA⟩ : ∃ wA, wA = ((w.alloc (.cells #[.int .i64 1, .int .i64 0] 3)).alloc (.cells (cellsP m0.places).toArray 46)).alloc (.cells (mkA m0 (.slice (some ⟨w.heap.size, 0, none⟩) 2 2) (.slice (some ⟨w.heap.size + 1, 0, none⟩) 2 2)) 27) := ⟨_, rfl⟩
  have hsA := Lib.hid (show RdI wA (.slice (some ⟨w.heap.size, 0, none⟩) 2 2) m0.sizes from hwA ▸ rdI_two (((Blk.new w 3 _).alloc _).alloc _))
  have hpA := Lib.hid (show RdP wA (.slice (some ⟨w.heap.size + 1, 0, none⟩) 2 2) m0.places from hwA ▸ rdP_two ((Blk.at (by simp)).alloc _))
  have hbA := Lib.hid (show Blk wA (w.heap.size + 1 + 1) 27 (mkA m0 (.slice (some ⟨w.heap.size, 0, none⟩) 2 2) (.slice (some ⟨w.heap.size + 1, 0, none⟩) 2 2)) from hwA ▸ Blk.at (by simp))
  have hEA := Lib.hid (show Ext w wA from hwA ▸ (((Ext.refl w).alloc _).alloc _).alloc _)
  rw [show ((w.alloc (.cells #[.int .i64 1, .int .i64 0] 3)).alloc (.cells #[.int .i64 0, .int .i64 0, .int .i64 0, .bool false, .int .i64 0, .int .i64 0, .int .i64 0, .int .i64 1, .int .i64 2, .int .i64 1, .bool true, .int .i64 3, .int .i64 (-5), .int .i64 17] 46)).alloc (.cells #[.int .i64 60, .int .i64 40, .int .i64 0, .int .i64 10, .slice (some ⟨w.heap.size, 0, none⟩) 2 2, .slice (some ⟨w.heap.size + 1, 0, none⟩) 2 2] 27) = wA from hwA.symm]
  clear hwA
  refine (c_print m0 _ _ ⟨_, _, rfl, hsA.out, hpA.out⟩ (ht.out.ext hEA.out)).mono ?_
  intro e w1 he
  obtain ⟨rfl, hx⟩ := he.open_ print_m0
  have hE1 := Lib.hid (hEA.out.trans hx)
  have hA1 := Lib.hid hx
  clear hx he
  go_wp2_with fail
  refine (c_parse _ _ (ht.out.ext hE1.out) (by decide)).mono ?_
  intro e w2 he
  obtain ⟨sv2, pv2, rfl, hs2, hp2, hx2⟩ := he.open_ (show _ = _ from parse_t0)
  obtain ⟨As2, cs2, rfl⟩ := hs2.nat
  obtain ⟨Ap2, cp2, rfl⟩ := hp2.slice
  have hE2 := Lib.hid (hE1.out.trans hx2)
  have hA2 := Lib.hid (hA1.out.trans hx2)
  replace hs2 := Lib.hid hs2
  replace hp2 := Lib.hid hp2
  clear hx2 he
  unfold mkV
  go_wp2_with fail
  obtain ⟨wC, hwC⟩ : ∃ wC, wC = w2.alloc (.cells (mkA m0 (.slice As2 m0.sizes.length cs2) (.slice Ap2 m0.places.length cp2)) 27) := ⟨_, rfl⟩
  have hbC := Lib.hid (show Blk wC w2.heap.size 27 (mkA m0 (.slice As2 m0.sizes.length cs2) (.slice Ap2 m0.places.length cp2)) from hwC ▸ Blk.new w2 27 _)
  have h2C := Lib.hid (show Ext w2 wC from hwC ▸ (Ext.refl w2).alloc _)
  have hEC := Lib.hid (hE2.out.trans h2C.out)
  have hAC := Lib.hid (hA2.out.trans h2C.out)
  have hF2 := Lib.hid (Ext.refl wC)
  rw [show w2.alloc (.cells #[.int .i64 m0.len, .int .i64 m0.wid, .int .i64 m0.rx, .int .i64 m0.ry, .slice As2 m0.sizes.length cs2, .slice Ap2 m0.places.length cp2] 27) = wC from hwC.symm]
  clear hwC
  refine (c_parse _ _ (ht.out.ext (hEC.out.trans hF2.out)) (by decide)).mono ?_
  intro e w3 he
  obtain ⟨sv3, pv3, rfl, hs3, hp3, hx3⟩ := he.open_ (show _ = _ from parse_t1)
  obtain ⟨As3, cs3, rfl⟩ := hs3.nat
  obtain ⟨Ap3, cp3, rfl⟩ := hp3.slice
  have hF3 := Lib.hid ((hF2.out.trans hx3).alloc (.cells (mkA Mk.zero (.slice As3 Mk.zero.sizes.length cs3) (.slice Ap3 Mk.zero.places.length cp3)) 27))
  clear hx3 he hs3 hp3
  unfold mkV
  go_wp2_with fail
  refine (c_parse _ _ (ht.out.ext (hEC.out.trans hF3.out)) (by decide)).mono ?_
  intro e w4 he
  obtain ⟨sv4, pv4, rfl, hs4, hp4, hx4⟩ := he.open_ (show _ = _ from parse_t2)
  obtain ⟨As4, cs4, rfl⟩ := hs4.nat
  obtain ⟨Ap4, cp4, rfl⟩ := hp4.slice
  have hF4 := Lib.hid ((hF3.out.trans hx4).alloc (.cells (mkA Mk.zero (.slice As4 Mk.zero.sizes.length cs4) (.slice Ap4 Mk.zero.places.length cp4)) 27))
  clear hx4 he hs4 hp4
  unfold mkV
  go_wp2_with fail
  refine (c_parse _ _ (ht.out.ext (hEC.out.trans hF4.out)) (by decide)).mono ?_
  intro e w5 he
  obtain ⟨sv5, pv5, rfl, hs5, hp5, hx5⟩ := he.open_ (show _ = _ from parse_t3)
  obtain ⟨As5, cs5, rfl⟩ := hs5.nat
  obtain ⟨Ap5, cp5, rfl⟩ := hp5.slice
  have hF5 := Lib.hid ((hF4.out.trans hx5).alloc (.cells (mkA Mk.zero (.slice As5 Mk.zero.sizes.length cs5) (.slice Ap5 Mk.zero.places.length cp5)) 27))
  clear hx5 he hs5 hp5
  unfold mkV
  go_wp2_with fail
  refine (c_print ⟨-1, 0, 0, 0, [], []⟩ _ _ ⟨_, _, rfl, RdI.nil _, RdP.nil _⟩ (ht.out.ext (hEC.out.trans hF5.out))).mono ?_
  intro e w6 he
  obtain ⟨rfl, hx⟩ := he.open_ print_m1
  have hF6 := Lib.hid (hF5.out.trans hx)
  clear hx he
  have hb6 := hbC.out.ext hF6.out
  have hm6 := hbA.out.ext (hAC.out.trans hF6.out)
  obtain ⟨⟨q0, q1, q2, q3, q4, q5⟩, _, hlt⟩ := hb6.parts6
  obtain ⟨⟨r0, r1, r2, r3, r4, r5⟩, _, rlt⟩ := hm6.parts6
  replace hb6 := Lib.hid hb6
  replace hm6 := Lib.hid hm6
  have htx : ((ofB t0).toList == t0) = true := by rw [ByteArray.toList_eq]; decide
  unfold t0 at htx ⊢
  go_wp2_with fail
  refine (c_same m0 _ _ _ ⟨_, _, rfl, hs2.out.ext (h2C.out.trans hF6.out), hp2.out.ext (h2C.out.trans hF6.out)⟩ ⟨_, _, rfl, hsA.out.ext (hAC.out.trans hF6.out), hpA.out.ext (hAC.out.trans hF6.out)⟩).mono ?_
  rintro e w7 ⟨rfl, hx⟩
  have hE7 := Lib.hid (hEC.out.trans (hF6.out.trans hx))
  clear hx
  go_wp2
  go_ret
  exact ⟨rfl, hE7.out⟩

end Go.Proofs.YtmbjlbmfagfneaaDoor
