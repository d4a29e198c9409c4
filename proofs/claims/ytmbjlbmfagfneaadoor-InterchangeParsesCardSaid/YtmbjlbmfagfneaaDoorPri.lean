/- Print of the program. -/
import Derived.Test.YtmbjlbmfagfneaaDoorPrl
import Derived.Test.YtmbjlbmfagfneaaDoorPar
namespace Go.Proofs.YtmbjlbmfagfneaaDoor
open Go Go.RowKit

theorem builder_kept {B b : Nat} {l : List Value} {w w' : World} (h : Lib.IsBuilder 51 5 B b l w) (he : Ext w w') : Lib.IsBuilder 51 5 B b l w' := by
  have key : ∀ p, Lib.BuilderAt 51 5 B b p l w → Lib.BuilderAt 51 5 B b p l w' := by
    rintro p ⟨hB, v, hb, hown, hne⟩
    refine ⟨hB, v, he.heap hb, ?_, hne⟩
    refine World.ownsRow.kept hown (row := none) ⟨he.below.os, he.below.tape, he.below.output, he.size, fun i hi _ => he.below.block i hi⟩ ?_
    cases v.ownBlock <;> simp
  rcases h with h | h
  · exact .inl (key _ h)
  · exact .inr (key _ h)

/-- WriteString in this seat's words -/
theorem l_write (B b : Nat) (l : List UInt8) (s : ByteArray) (w : World) (h : Lib.IsBuilder 51 5 B b (Lib.byteCells l) w) (hlen : l.length + s.size ≤ 1000000) (hBw : B ≤ w.heap.size) :
    Calls Tryd.prog 20 #[.pointer (some ⟨b, 0, none⟩), .string s] w fun e w' => e = .returned (.tuple #[.int .i64 s.size, .nilIface]) ∧ Lib.IsBuilder 51 5 B b (Lib.byteCells (l ++ bs s)) w' ∧ Below B w w' := by
  refine (Tryd.Builder_WriteString B b (Lib.byteCells l) s w h (by rw [Lib.byteCells_length]; omega) hBw).mono ?_
  rintro e w' ⟨rfl, h1, h2⟩
  refine ⟨rfl, .inr ?_, h2⟩
  have e1 : Lib.byteCells (l ++ bs s) = Lib.byteCells l ++ Lib.strCells s := by unfold Lib.byteCells Lib.strCells bs; rw [List.map_append]
  rw [e1]; exact h1

/-- how Print ends -/
def PriOut (m : Mk) (w : World) (e : Ending) (w' : World) : Prop := e = .returned (.tuple #[.string (ofB (print m).1), .int .i64 (print m).2]) ∧ Ext w w'
theorem PriOut.mk {m : Mk} {w w' : World} {t : B} {c : Int} (h : print m = (t, c)) (he : Ext w w') : PriOut m w (.returned (.tuple #[.string (ofB t), .int .i64 c])) w' := by
  unfold PriOut; rw [h]; exact ⟨rfl, he⟩

theorem snl (a : B) : ofB a ++ ⟨#[10]⟩ = ofB (a ++ [10]) := ofB_app a [10]
theorem fl5 (a : ByteArray) : (a ++ ⟨#[32, 102, 108, 105, 112]⟩).size = a.size + 5 := by rw [ByteArray.size_append]; rfl
theorem ofB_nil : ofB [] = ⟨#[]⟩ := rfl

theorem pe_no {p : Pl} {L : ByteArray} (h : L = ofB (joinL Tplace [p.g, p.u, p.c])) (hf : p.f = false) : joinL (bs L) [p.q, p.x, p.y] = plL p := by
  rw [plL_join, hf, h, bs_ofB]; simp
theorem pe_yes {p : Pl} {L : ByteArray} (h : L = ofB (joinL Tplace [p.g, p.u, p.c])) (hf : p.f = true) : joinL (bs (L ++ ⟨#[32, 102, 108, 105, 112]⟩)) [p.q, p.x, p.y] = plL p := by
  rw [plL_join, hf, h, show (⟨#[32, 102, 108, 105, 112]⟩ : ByteArray) = ofB (32 :: Tflip) from rfl, ofB_app, bs_ofB]; rfl

/-- the first k places are in range -/
structure PriUp (m : Mk) (k : Nat) : Prop where
  all : (m.places.take k).all plOk = true

set_option maxHeartbeats 1000000 in
theorem c_print (m : Mk) (v : Value) (w : World) (hm : RdM w v m) (ht : Tab w) : Calls Tryd.prog 11 #[v] w (PriOut m w) := by
  obtain ⟨sv, pv, rfl, hsv, hpv⟩ := hm
  obtain ⟨As, cs, rfl⟩ : ∃ A cap, sv = .slice A m.sizes.length cap := hsv.nat
  obtain ⟨Ap, cp, rfl, hcp1, hcp2, hpc⟩ := hpv
  unfold maxLen at hcp2
  replace hsv := Lib.hid hsv
  replace hpc := Lib.hid hpc
  replace ht := Lib.hid ht
  unfold mkV
  go_enter Tryd.func11, Tryd.ntmps11
  by_cases h6 : 6 < m.sizes.length
  · go_wp2
    go_ret2
    exact PriOut.mk (print_long (.inl h6)) ((Ext.refl w).alloc _)
  by_cases h60 : 60 < m.places.length
  · go_wp2
    go_ret2
    exact PriOut.mk (print_long (.inr h60)) ((Ext.refl w).alloc _)
  go_wp2_with fail
  refine (c_headIn m _ _ _).mono ?_
  rintro e w1 ⟨rfl, hX1⟩
  have hb1 := (Blk.new w 27 (mkA m (.slice As m.sizes.length cs) (.slice Ap m.places.length cp))).ext hX1
  have hE1 := Lib.hid (((Ext.refl w).alloc _).trans hX1)
  obtain ⟨⟨q0, q1, q2, q3, q4, q5⟩, _, hlt⟩ := hb1.parts6
  replace hb1 := Lib.hid hb1
  replace hX1 := Lib.hid hX1
  rcases hk : headOk m.len m.wid m.rx m.ry with _ | _
  · go_wp2
    go_ret2
    refine PriOut.mk (print_bad (by omega) (by omega) ?_) hE1.out
    unfold mkOk; rw [hk]; rfl
  replace hk := Lib.hid hk
  go_wp2_with fail
  refine (c_within _ _ _ m.sizes _ (hsv.out.ext hE1.out)).mono ?_
  rintro e w2 ⟨rfl, rfl⟩
  rcases ha : m.sizes.all (inR 0 1048576) with _ | _
  · go_wp2
    go_ret2
    refine PriOut.mk (print_bad (by omega) (by omega) ?_) hE1.out
    unfold mkOk; rw [hk.out, ha]; rfl
  replace ha := Lib.hid ha
  go_wp2_with fail
  have hbu := Lib.hid (Lib.fresh_isBuilder 51 5 w1)
  obtain ⟨w3, hw3⟩ : ∃ w3, w3 = (w1.alloc (.cells #[.pointer none, .slice none 0 0] 51)).alloc (.cells #[.int .i64 m.len, .int .i64 m.wid, .int .i64 m.rx, .int .i64 m.ry] 3) := ⟨_, rfl⟩
  have hrd4 := Lib.hid (show RdI w3 (.slice (some ⟨w1.heap.size + 1, 0, none⟩) 4 4) [m.len, m.wid, m.rx, m.ry] from hw3 ▸ rdI_four (Blk.at (by simp)))
  have hbu3 := Lib.hid (show Lib.IsBuilder 51 5 w1.heap.size w1.heap.size [] w3 from hw3 ▸ builder_kept hbu.out ((Ext.refl _).alloc _))
  have hE3 := Lib.hid (show Ext w1 w3 from hw3 ▸ ((Ext.refl w1).alloc _).alloc _)
  rw [← hw3]
  clear hw3 hbu
  have hhr := Lib.hid (show ∀ n ∈ [m.len, m.wid, m.rx, m.ry], -1048576 ≤ n ∧ n ≤ 1048576 from fun n hn => by
    obtain ⟨a, b, c, d⟩ := headOk_iff.1 hk.out
    simp only [List.mem_cons, List.not_mem_nil, or_false] at hn
    rcases hn with rfl | rfl | rfl | rfl <;> omega)
  refine (c_joined _ _ [m.len, m.wid, m.rx, m.ry] _ hrd4.out hhr.out (ht.out.ext (hE1.out.trans hE3.out)) (by decide) (by simp)).mono ?_
  rintro e w4 ⟨rfl, hX4⟩
  rw [show joinL (bs ⟨#[109, 97, 114, 107, 101, 114]⟩) [m.len, m.wid, m.rx, m.ry] = headL m from (headL_join m).symm]
  have hbu4 := Lib.hid (builder_kept hbu3.out hX4)
  have hE4 := hE3.out.trans hX4
  replace q0 := hE4.cell q0
  replace q1 := hE4.cell q1
  replace q2 := hE4.cell q2
  replace q3 := hE4.cell q3
  replace q4 := hE4.cell q4
  replace q5 := hE4.cell q5
  have hs4 := hE4.size
  replace hE4 := Lib.hid hE4
  replace hX4 := Lib.hid hX4
  clear hbu3 hrd4 hhr
  have z1 : ¬ 9223372036854775807 < (ofB (headL m)).size + 1 := by
    have := headL_len m hk.out
    rw [ofB_size]; omega
  have hz1 := Lib.hid (headL_len m hk.out)
  go_wp2_with fail
  refine (l_write w1.heap.size w1.heap.size [] _ _ hbu4.out (by have := hz1.out; rw [snl, ofB_size, List.length_append]; simp only [List.length_cons, List.length_nil]; omega) hs4).mono ?_
  rintro e w5 ⟨rfl, hbu5, hB5⟩
  rw [snl, bs_ofB, List.nil_append] at hbu5
  have hE5 := hE4.out.trans_below hB5
  replace q0 := hE5.cell (hb1.out.parts6.1.1)
  replace q4 := hE5.cell (hb1.out.parts6.1.2.2.2.2.1)
  replace q5 := hE5.cell (hb1.out.parts6.1.2.2.2.2.2)
  have hs5 := hE5.size
  replace hE5 := Lib.hid hE5
  replace hbu5 := Lib.hid hbu5
  replace hB5 := Lib.hid hB5
  clear q1 q2 q3 hs4 z1 hbu4
  have hsr := Lib.hid (show ∀ n ∈ m.sizes, -1048576 ≤ n ∧ n ≤ 1048576 from fun n hn => by
    have := inR_iff.1 (List.all_eq_true.1 ha.out n hn)
    omega)
  go_wp2_with fail
  refine (c_joined _ _ m.sizes _ (hsv.out.ext (hE1.out.trans hE5.out)) hsr.out (ht.out.ext (hE1.out.trans hE5.out)) (by decide) (by omega)).mono ?_
  rintro e w6 ⟨rfl, hX6⟩
  rw [show joinL (bs ⟨#[115, 105, 122, 101, 115]⟩) m.sizes = sizesL m from (sizesL_join m).symm]
  have hbu6 := Lib.hid (builder_kept hbu5.out hX6)
  have hE6 := hE5.out.trans hX6
  replace q5 := hE6.cell (hb1.out.parts6.1.2.2.2.2.2)
  have hs6 := hE6.size
  replace hE6 := Lib.hid hE6
  replace hX6 := Lib.hid hX6
  clear q0 q4 hs5
  have hz2 := Lib.hid (sizesL_len m ha.out (by omega))
  have z2 : ¬ 9223372036854775807 < (ofB (sizesL m)).size + 1 := by
    have := hz2.out
    rw [ofB_size]; omega
  go_wp2_with fail
  refine (l_write w1.heap.size w1.heap.size (headL m ++ [10]) _ _ hbu6.out (by have := hz1.out; have := hz2.out; rw [snl, ofB_size, List.length_append, List.length_append]; simp only [List.length_cons, List.length_nil]; omega) hs6).mono ?_
  rintro e w7 ⟨rfl, hbu7, hB7⟩
  rw [snl, bs_ofB, ← textUp_zero] at hbu7
  have hE7 := hE6.out.trans_below hB7
  replace q5 := hE7.cell (hb1.out.parts6.1.2.2.2.2.2)
  have hs7 := hE7.size
  replace hE7 := Lib.hid hE7
  replace hbu7 := Lib.hid hbu7
  replace hB7 := Lib.hid hB7
  clear hs6 z2 hbu5 hbu6
  go_wp2
  go_loopw [49] (fun i wr => ∃ (k : Nat), k ≤ m.places.length ∧ i = .int .i64 (k : Nat) ∧ PriUp m k ∧ Lib.IsBuilder 51 5 w1.heap.size w1.heap.size (Lib.byteCells (textUp m k)) wr ∧ Ext w1 wr) (fun i _ => m.places.length - (intOf i).toNat)
  case atStart => exact ⟨0, Nat.zero_le _, rfl, ⟨by simp⟩, hbu7.out, hE7.out⟩
  case round =>
    obtain ⟨k, hk1, rfl, hup, hbu, hX⟩ := hrel
    have hsr := hX.size
    replace hbu := Lib.hid hbu
    have hEw := Lib.hid (hE1.out.trans hX)
    replace hX := Lib.hid hX
    by_cases hlt2 : k < m.places.length
    · obtain ⟨b, o, rfl, c0, c1, c2, c3, c4, c5, c6⟩ := hpc.out k hlt2
      replace c0 := hEw.out.cell c0
      replace c1 := hEw.out.cell c1
      replace c2 := hEw.out.cell c2
      replace c3 := hEw.out.cell c3
      replace c4 := hEw.out.cell c4
      replace c5 := hEw.out.cell c5
      replace c6 := hEw.out.cell c6
      obtain ⟨p, hp⟩ : ∃ p, p = m.places[k] := ⟨_, rfl⟩
      rw [← hp] at c0 c1 c2 c3 c4 c5 c6
      replace hp := Lib.hid hp
      go_wp2_with fail
      refine (c_placeIn p _).mono ?_
      rintro e w8 ⟨rfl, hX8⟩
      have hb8 := (Blk.new wr 46 (plC p).toArray).ext hX8
      have hE8 := Lib.hid (((Ext.refl wr).alloc _).trans hX8)
      have d0 : w8.cell? ⟨wr.heap.size, 0, none⟩ = some (.int .i64 p.g) := hb8.cell 0
      have d1 : w8.cell? ⟨wr.heap.size, 1, none⟩ = some (.int .i64 p.u) := hb8.cell 1
      have d2 : w8.cell? ⟨wr.heap.size, 2, none⟩ = some (.int .i64 p.c) := hb8.cell 2
      have hlt8 := hb8.lt
      replace hb8 := Lib.hid hb8
      replace hX8 := Lib.hid hX8
      clear c0 c1 c2 c3 c4 c5 c6
      rcases hok : plOk p with _ | _
      · go_wp2
        go_ret2
        refine PriOut.mk (print_bad (by omega) (by omega) ?_) (hEw.out.trans hE8.out)
        unfold mkOk
        rw [all_pl_hit hlt2 (by rw [← hp.out]; exact hok)]; simp
      · have hup2 := Lib.hid (all_pl_snoc hlt2 hup.all (by rw [← hp.out]; exact hok))
        have hpi := Lib.hid (plOk_iff.1 hok)
        have hpl := Lib.hid (plL_len p hok)
        replace hok := Lib.hid hok
        go_wp2_with fail
        refine (c_joined _ _ [p.g, p.u, p.c] _ (rdI_three (Blk.at rfl)) (fun n hn => by
          obtain ⟨h1, h2, h3, _⟩ := hpi.out
          simp only [List.mem_cons, List.not_mem_nil, or_false] at hn
          rcases hn with rfl | rfl | rfl <;> omega) (ht.out.ext ((hEw.out.trans hE8.out).alloc _)) (by decide) (by simp)).mono ?_
        rintro e w9 ⟨rfl, hX9⟩
        rw [show joinL (bs ⟨#[112, 108, 97, 99, 101]⟩) [p.g, p.u, p.c] = joinL Tplace [p.g, p.u, p.c] from rfl]
        have hE9 := Lib.hid ((hE8.out.alloc _).trans hX9)
        have hb9 := hb8.out.ext (((Ext.refl w8).alloc _).trans hX9)
        have d3 : w9.cell? ⟨wr.heap.size, 3, none⟩ = some (.bool p.f) := hb9.cell 3
        have d4 : w9.cell? ⟨wr.heap.size, 4, none⟩ = some (.int .i64 p.q) := hb9.cell 4
        have d5 : w9.cell? ⟨wr.heap.size, 5, none⟩ = some (.int .i64 p.x) := hb9.cell 5
        have d6 : w9.cell? ⟨wr.heap.size, 6, none⟩ = some (.int .i64 p.y) := hb9.cell 6
        have hlt9 := hb9.lt
        replace hb9 := Lib.hid hb9
        replace hX9 := Lib.hid hX9
        clear d0 d1 d2 hlt8
        have hj3 : (joinL Tplace [p.g, p.u, p.c]).length ≤ 50 := by
          obtain ⟨h1, h2, h3, _⟩ := hpi.out
          have := joinL_len Tplace [p.g, p.u, p.c] (fun n hn => by
            simp only [List.mem_cons, List.not_mem_nil, or_false] at hn
            rcases hn with rfl | rfl | rfl <;> omega)
          have h3 : Tplace.length = 5 := rfl
          simp only [List.length_cons, List.length_nil] at this
          omega
        obtain ⟨L1, hL1⟩ : ∃ L1, L1 = ofB (joinL Tplace [p.g, p.u, p.c]) := ⟨_, rfl⟩
        rw [← hL1]
        have hs1 : L1.size ≤ 50 := by rw [hL1, ofB_size]; exact hj3
        clear hj3
        have z3 : ¬ 9223372036854775807 < L1.size + 5 := by omega
        replace hL1 := Lib.hid hL1
        have hplj := Lib.hid (plL_join p)
        rcases hf : p.f with _ | _
        all_goals
          rw [hf] at d3
          go_wp2_with fail
          refine (c_joined _ _ [p.q, p.x, p.y] _ (rdI_three (Blk.at rfl)) (fun n hn => by
            obtain ⟨_, _, _, h1, h2, h3⟩ := hpi.out
            simp only [List.mem_cons, List.not_mem_nil, or_false] at hn
            rcases hn with rfl | rfl | rfl <;> omega) (ht.out.ext ((hEw.out.trans hE9.out).alloc _)) (by first | omega | (rw [fl5]; omega)) (by simp)).mono ?_
          rintro e w10 ⟨rfl, hX10⟩
          first
            | rw [pe_no hL1.out hf]
            | rw [pe_yes hL1.out hf]
          have hE10 := (hE9.out.alloc _).trans hX10
          have hbu10 := Lib.hid (builder_kept hbu.out hE10)
          have hs10 := Nat.le_trans hsr hE10.size
          replace hE10 := Lib.hid hE10
          replace hX10 := Lib.hid hX10
          have z4 : ¬ 9223372036854775807 < (ofB (plL p)).size + 1 := by
            have := hpl.out
            rw [ofB_size]; omega
          have hul := Lib.hid (textUp_len m hk.out ha.out (by omega) k (by omega) hup.all)
          go_wp2_with fail
          refine (l_write w1.heap.size w1.heap.size (textUp m k) _ _ hbu10.out (by have := hpl.out; have := hul.out; rw [snl, ofB_size, List.length_append]; simp only [List.length_cons, List.length_nil]; omega) hs10).mono ?_
          rintro e w11 ⟨rfl, hbu11, hB11⟩
          rw [snl, bs_ofB, hp.out, ← textUp_snoc m k hlt2] at hbu11
          replace hbu11 := Lib.hid hbu11
          replace hB11 := Lib.hid hB11
          go_wp2
          go_roundw
          case rel => exact ⟨k + 1, by omega, by go_num, ⟨hup2.out⟩, hbu11.out, (hX.out.trans hE10.out).trans_below hB11.out⟩
          case measure => simp [intOf]; omega
    · go_wp2_with fail
      refine (Tryd.Builder_String_any w1.heap.size w1.heap.size (textUp m k) _ hbu.out hsr).mono ?_
      rintro e w8 ⟨rfl, hB8⟩
      replace hB8 := Lib.hid hB8
      go_wp2
      go_ret2
      refine PriOut.mk (t := textUp m k) ?_ (hE1.out.trans (hX.out.trans_below hB8.out))
      rw [textUp_all m k (by omega)]
      refine print_ok (by omega) (by omega) ?_
      unfold mkOk
      rw [hk.out, ha.out, ← List.take_of_length_le (i := k) (l := m.places) (by omega), hup.all]; rfl

end Go.Proofs.YtmbjlbmfagfneaaDoor
