/- Contract of outline.Check. -/
import Derived.Test.YtiahfiopigjolaaGreatOlc
namespace Go.Proofs.YtiahfiopigjolaaGreat
open Go Go.RowKit
attribute [local go_sem ↓] Go.wp_at_zero Go.wp_at_succ

theorem bytes_eq {a b : ByteArray} (h : (a.toList == b.toList) = true) : a = b := by
  rw [ByteArray.toList_eq, ByteArray.toList_eq] at h
  have h1 := eq_of_beq h
  obtain ⟨⟨a⟩⟩ := a
  obtain ⟨⟨b⟩⟩ := b
  have : a = b := h1
  rw [this]
theorem bytes_ne {a b : ByteArray} (h : (a.toList == b.toList) = false) : ¬ a = b := fun e => by
  subst e
  simp at h
theorem ed_cells {w : World} {g : Nat} {t : TypeId} {e : Ed} {v : Value} (h : Blk w g t (edC e v).toArray) : w.cell? ⟨g, 0, none⟩ = some (.string e.name) ∧ w.cell? ⟨g, 1, none⟩ = some v ∧ g < w.heap.size := ⟨h.cell 0, h.cell 1, h.lt⟩
theorem edgeE_name {l : List Ed} {i : Nat} (hi : i < l.length) (h : nmB l[i].name = false) : edgeE l i = 1 := by
  unfold edgeE; rw [nth_eq l hi, if_neg (by rw [h]; decide)]
theorem edgeE_dup {l : List Ed} {i : Nat} (hi : i < l.length) (h : nmB l[i].name = true) (h2 : upto (sameE l i) i = 7) : edgeE l i = 7 := by
  unfold edgeE; rw [nth_eq l hi, if_pos h, if_neg (by rw [h2]; decide)]
theorem edgeE_line {l : List Ed} {i : Nat} (hi : i < l.length) (h : nmB l[i].name = true) (h2 : upto (sameE l i) i = 0) : edgeE l i = plCheck l[i].line := by
  unfold edgeE; rw [nth_eq l hi, if_pos h, if_pos h2]
theorem edgeE_ok {l : List Ed} {i : Nat} (hi : i < l.length) (h : edgeE l i = 0) : nmB l[i].name = true ∧ plCheck l[i].line = 0 := by
  unfold edgeE at h
  rw [nth_eq l hi] at h
  split at h
  · rename_i h1
    split at h
    · exact ⟨h1, h⟩
    · omega
  · omega
theorem sameE_yes {l : List Ed} {i j : Nat} (hi : i < l.length) (hj : j < l.length) (h : l[j].name = l[i].name) : sameE l i j = 7 := by
  unfold sameE; rw [nth_eq l hi, nth_eq l hj, if_pos h]
theorem sameE_no {l : List Ed} {i j : Nat} (hi : i < l.length) (hj : j < l.length) (h : ¬ l[j].name = l[i].name) : sameE l i j = 0 := by
  unfold sameE; rw [nth_eq l hi, nth_eq l hj, if_neg h]
theorem shutE_yes {l : List Ed} {i m n1 : Nat} (hi : i < l.length) (hm : (i + 1) % l.length = m) (lm : m < l.length) (hn : n1 + 1 = l[i].line.length) (h0 : 0 < l[m].line.length) (h : l[i].line[n1]'(by omega) = l[m].line[0]) : shutE l i = 0 := by
  unfold shutE
  rw [hm, nth_eq l hi, nth_eq l lm, nth_eq l[m].line h0, show l[i].line.length - 1 = n1 by omega, nth_eq l[i].line (by omega), if_pos h]
theorem shutE_no {l : List Ed} {i m n1 : Nat} (hi : i < l.length) (hm : (i + 1) % l.length = m) (lm : m < l.length) (hn : n1 + 1 = l[i].line.length) (h0 : 0 < l[m].line.length) (h : ¬ l[i].line[n1]'(by omega) = l[m].line[0]) : shutE l i = 11 := by
  unfold shutE
  rw [hm, nth_eq l hi, nth_eq l lm, nth_eq l[m].line h0, show l[i].line.length - 1 = n1 by omega, nth_eq l[i].line (by omega), if_neg h]
theorem olCheck_many {l : List Ed} (h : 16 < l.length) : olCheck l = 5 := by unfold olCheck; rw [if_pos h]
theorem olCheck_few {l : List Ed} (h : ¬ 16 < l.length) (h2 : l.length < 2) : olCheck l = 11 := by unfold olCheck; rw [if_neg h, if_pos h2]
theorem olCheck_edge {l : List Ed} (h : ¬ 16 < l.length) (h2 : ¬ l.length < 2) {c : Int} (h3 : upto (edgeE l) l.length = c) (hc : c ≠ 0) : olCheck l = c := by
  unfold olCheck; rw [if_neg h, if_neg h2, h3, if_neg hc]
theorem olCheck_shut {l : List Ed} (h : ¬ 16 < l.length) (h2 : ¬ l.length < 2) (h3 : upto (edgeE l) l.length = 0) (h4 : upto (shutE l) l.length = 11) : olCheck l = 11 := by
  unfold olCheck; rw [if_neg h, if_neg h2, if_pos h3, h4, if_neg (by decide)]
theorem olCheck_pg {l : List Ed} (h : ¬ 16 < l.length) (h2 : ¬ l.length < 2) (h3 : upto (edgeE l) l.length = 0) (h4 : upto (shutE l) l.length = 0) : olCheck l = pgCheck (verts l) := by
  unfold olCheck; rw [if_neg h, if_neg h2, if_pos h3, if_pos h4]

set_option maxHeartbeats 4000000 in
theorem c_olCheck (v : Value) (es : List Ed) (w : World) (h : RdL 2 edP w v es) : Calls Tryz.prog 20 #[v] w fun e w' => e = .returned (.int .i64 (olCheck es)) ∧ Ext w w' := by
  obtain ⟨A, c, rfl⟩ := h.slice
  have hcap : es.length ≤ c ∧ c ≤ 9223372036854775807 := by
    obtain ⟨_, _, e, h1, h2, _⟩ := h
    injection e with _ _ e2
    unfold maxLen at h2
    omega
  replace h := Lib.hid h
  go_enter Tryz.func20, Tryz.ntmps20
  by_cases h16 : 16 < es.length
  · have hp := Lib.hid (olCheck_many h16)
    go_wp2
    go_ret
    exact ⟨ret_int hp.out.symm, Ext.refl w⟩
  by_cases h2 : es.length < 2
  · have hp := Lib.hid (olCheck_few h16 h2)
    go_wp2
    go_ret
    exact ⟨ret_int hp.out.symm, Ext.refl w⟩
  have hEdge := Lib.hid (fun (c : Int) h3 hc => olCheck_edge (c := c) h16 h2 h3 hc)
  have hShut := Lib.hid (olCheck_shut h16 h2)
  have hPg := Lib.hid (olCheck_pg h16 h2)
  go_wp2
  go_loopw [19] (fun i wr => ∃ k : Nat, k ≤ es.length ∧ i = .int .i64 (k : Nat) ∧ Pass (edgeE es) k ∧ Ext w wr) (fun i _ => es.length - (intOf i).toNat)
  case atStart => exact ⟨0, Nat.zero_le _, rfl, Pass.zero _, Ext.refl _⟩
  case round =>
    obtain ⟨k, hk, rfl, hup, hX⟩ := hrel
    by_cases hlt : k < es.length
    · obtain ⟨b, o, L, m, rfl, hline, hnz, c0, c1⟩ := h.out.edge k hlt
      have hNo := Lib.hid (fun h => hEdge.out _ (hup.hit hlt (edgeE_name hlt h) (by decide)) (by decide))
      have hDup := Lib.hid (fun h h2 => hEdge.out _ (hup.hit hlt (edgeE_dup hlt h h2) (by decide)) (by decide))
      have hBad := Lib.hid (fun h h2 h3 => hEdge.out _ (hup.hit hlt (edgeE_line hlt h h2) h3) h3)
      have hNx := Lib.hid (fun h h2 h3 => hup.next ((edgeE_line hlt h h2).trans h3))
      have hSy := Lib.hid (fun (j : Nat) hj h => sameE_yes (j := j) hlt hj h)
      have hSn := Lib.hid (fun (j : Nat) hj h => sameE_no (j := j) hlt hj h)
      obtain ⟨ed, hed⟩ : ∃ e, e = es[k] := ⟨_, rfl⟩
      rw [← hed] at hline hnz c0 c1 hNo hDup hBad hNx hSy hSn
      clear hed
      have hcn := Lib.hid (fun w => c_olName ed.name w hnz)
      have hcl := Lib.hid (fun w h => c_plCheck (.slice L ed.line.length m) ed.line w h)
      replace hline := Lib.hid hline
      replace c0 := hX.cell c0
      replace c1 := hX.cell c1
      have lb := World.block_lt_of_cell? _ _ c0
      replace hX := Lib.hid hX
      replace hup := Lib.hid hup
      have hki : (k : Int) < es.length := by omega
      have hk0 : (0 : Int) ≤ k := by omega
      have hkc : (k : Int) ≤ c := by omega
      go_wp2_with fail
      refine (hcn.out _).mono ?_
      rintro e w1 ⟨rfl, hx⟩
      have hbB := Lib.hid ((Blk.new wr 48 (edC ed (.slice L ed.line.length m)).toArray).ext hx)
      have hE1 := Lib.hid ((hX.out.alloc (.cells (edC ed (.slice L ed.line.length m)).toArray 48)).trans hx)
      clear hx c0 c1 lb
      obtain ⟨p0, p1, lB⟩ := ed_cells hbB.out
      rcases hnm : nmB ed.name with _ | _
      · have hh := Lib.hid (hNo.out hnm)
        replace hnm := Lib.hid hnm
        go_wp2
        go_ret
        exact ⟨ret_int hh.out.symm, hE1.out⟩
      · replace hnm := Lib.hid hnm
        go_wp2
        clear p0 p1 lB
        go_loopw [32] (fun i wr2 => ∃ j : Nat, j ≤ k ∧ i = .int .i64 (j : Nat) ∧ Pass (sameE es k) j ∧ Ext w1 wr2) (fun i _ => k - (intOf i).toNat)
        case atStart => exact ⟨0, Nat.zero_le _, rfl, Pass.zero _, Ext.refl _⟩
        case round =>
          obtain ⟨j, hj, rfl, hup2, hX2⟩ := hrel
          have hF := Lib.hid (hE1.out.trans hX2)
          obtain ⟨p0, p1, lB⟩ := ed_cells (hbB.out.ext hX2)
          by_cases hjl : j < k
          · have hje : j < es.length := by omega
            obtain ⟨b', o', L', m', e', _, _, d0, d1⟩ := h.out.edge j hje
            injection e' with e'
            injection e' with e5 e6 _
            subst e5 e6
            have hsy := Lib.hid (fun h => hDup.out hnm.out (hup2.hit hjl (hSy.out j hje h) (by decide)))
            have hsn := Lib.hid (fun h => hup2.next (hSn.out j hje h))
            obtain ⟨e2, he2⟩ : ∃ e, e = es[j] := ⟨_, rfl⟩
            rw [← he2] at d0 d1 hsy hsn
            clear he2
            replace d0 := hF.out.cell d0
            replace d1 := hF.out.cell d1
            have lb := World.block_lt_of_cell? _ _ d0
            replace hX2 := Lib.hid hX2
            replace hup2 := Lib.hid hup2
            have hji : (j : Int) < k := by omega
            rcases hq : (e2.name.toList == ed.name.toList) with _ | _
            · have hup3 := Lib.hid (hsn.out (bytes_ne hq))
              go_wp2
              go_roundw
              case rel => exact ⟨j + 1, by omega, by go_num, hup3.out, hX2.out.alloc _⟩
              case measure => simp [intOf]; omega
            · have hh := Lib.hid (hsy.out (bytes_eq hq))
              go_wp2
              go_ret
              exact ⟨ret_int hh.out.symm, hF.out.alloc _⟩
          · have hji : ¬ (j : Int) < k := by omega
            have hz := Lib.hid (hup2.done hjl hj)
            replace hX2 := Lib.hid hX2
            clear hup2
            go_wp2_with fail
            refine (hcl.out _ (hline.out.ext spP.stays hF.out)).mono ?_
            rintro e w3 ⟨rfl, hx⟩
            have hG := Lib.hid (hF.out.trans hx)
            clear hx p0 p1 lB
            by_cases hpc : plCheck ed.line = 0
            · have hup3 := Lib.hid (hNx.out hnm.out hz.out hpc)
              rw [hpc]
              replace hpc := Lib.hid hpc
              go_wp2
              go_roundw
              case rel => exact ⟨k + 1, by omega, by go_num, hup3.out, hG.out⟩
              case measure => simp [intOf]; omega
            · have hh := Lib.hid (hBad.out hnm.out hz.out hpc)
              have hn0 : (plCheck ed.line != 0) = true := bne_iff_ne.2 hpc
              replace hpc := Lib.hid hpc
              go_wp2
              go_ret
              exact ⟨ret_int hh.out.symm, hG.out⟩
    · have hki : ¬ (k : Int) < es.length := by omega
      have hall := Lib.hid (hup.done hlt hk)
      have hX0 := Lib.hid hX
      clear hX hup
      go_wp2
      obtain ⟨w0, hw0⟩ : ∃ w0, w0 = wr := ⟨_, rfl⟩
      subst hw0
      have hlok := Lib.hid (fun (i : Nat) (hi : i < es.length) => plOk_of (edgeE_ok hi (upto_zero hall.out i hi)).2)
      go_loopw [51] (fun v wr => ∃ i : Nat, i ≤ es.length ∧ v = .int .i64 (i : Nat) ∧ Pass (shutE es) i ∧ Ext w wr) (fun v _ => es.length - (intOf v).toNat)
      case atStart => exact ⟨0, Nat.zero_le _, rfl, Pass.zero _, hX0.out⟩
      case round =>
        obtain ⟨i, hi, rfl, hup, hX⟩ := hrel
        by_cases hil : i < es.length
        · obtain ⟨m1, hm1⟩ : ∃ m, (i + 1) % es.length = m := ⟨_, rfl⟩
          have l1 : m1 < es.length := hm1 ▸ Nat.mod_lt _ (by omega)
          obtain ⟨b, o, L, m, rfl, hline, _, c0, c1⟩ := h.out.edge i hil
          obtain ⟨b', o', L', m', e', hline2, _, d0, d1⟩ := h.out.edge m1 l1
          injection e' with e'
          injection e' with e5 e6 _
          subst e5 e6
          have t1 : Int.tmod ((i : Int) + 1) (es.length : Int) = (m1 : Int) := by rw [← hm1]; exact tmod_nat (i + 1) es.length
          have t3 : ((i : Int) + 1) % (es.length : Int) = (m1 : Int) := by rw [← hm1]; rfl
          have two1 := (hlok.out i hil).two
          have two2 := (hlok.out m1 l1).two
          have few1 := (hlok.out i hil).few
          obtain ⟨n1, hn1⟩ : ∃ n, n + 1 = es[i].line.length := ⟨es[i].line.length - 1, by omega⟩
          have h0m : 0 < es[m1].line.length := by omega
          have hYes := Lib.hid (fun h => hup.next (shutE_yes hil hm1 l1 hn1 h0m h))
          have hNo := Lib.hid (fun h => hShut.out hall.out (hup.hit hil (shutE_no hil hm1 l1 hn1 h0m h) (by decide)))
          obtain ⟨bl, ol, eL, f0, f1⟩ := hline.sp n1 (by omega)
          obtain ⟨bm, om, eM, g0, g1⟩ := hline2.sp 0 h0m
          subst eL eM
          rw [Nat.zero_mul, Nat.add_zero] at g0 g1
          obtain ⟨sl, hsl⟩ : ∃ s, s = es[i].line[n1]'(by omega) := ⟨_, rfl⟩
          obtain ⟨sm, hsm⟩ : ∃ s, s = es[m1].line[0] := ⟨_, rfl⟩
          rw [← hsl] at f0 f1 hYes hNo
          rw [← hsm] at g0 g1 hYes hNo
          clear hsl hsm hline hline2
          obtain ⟨ea, hea⟩ : ∃ e, e = es[i] := ⟨_, rfl⟩
          obtain ⟨eb, heb⟩ : ∃ e, e = es[m1] := ⟨_, rfl⟩
          rw [← hea] at c0 c1 hn1 two1 few1
          rw [← heb] at d0 d1 h0m two2
          clear hea heb
          replace c0 := hX.cell c0
          replace c1 := hX.cell c1
          replace d0 := hX.cell d0
          replace d1 := hX.cell d1
          replace f0 := hX.cell f0
          replace f1 := hX.cell f1
          replace g0 := hX.cell g0
          replace g1 := hX.cell g1
          have lb := World.block_lt_of_cell? _ _ c0
          have lbf := World.block_lt_of_cell? _ _ f0
          have lbg := World.block_lt_of_cell? _ _ g0
          replace hX := Lib.hid hX
          replace hup := Lib.hid hup
          replace hm1 := Lib.hid hm1
          have hki : (i : Int) < es.length := by omega
          have hk1 : (m1 : Int) < es.length := by omega
          have hk10 : (0 : Int) ≤ m1 := by omega
          have hnn1 : ¬ (es.length : Int) = 0 := by omega
          have hnn2 : ¬ es.length = 0 := by omega
          have hnn3 : ¬ es = [] := fun e => by rw [e] at hil; exact absurd hil (by simp)
          have hnn4 : ((es.length : Int) == 0) = false := beq_eq_false_iff_ne.2 (by omega)
          have hiw : IntKind.i64.wrap ((i : Int) + 1) = (i : Int) + 1 := IntWalk.i64_in _ (by omega)
          have hlw : IntKind.i64.wrap ((ea.line.length : Int) - 1) = (n1 : Int) := (IntWalk.i64_in _ (by omega)).trans (by omega)
          have hn10 : (0 : Int) ≤ n1 := by omega
          have hn1l : (n1 : Int) < ea.line.length := by omega
          have h0mi : (0 : Int) < eb.line.length := by omega
          replace hn1 := Lib.hid hn1
          go_wp2_with fail
          by_cases hx : sl.x = sm.x
          · by_cases hy : sl.y = sm.y
            · have hup2 := Lib.hid (hYes.out (sp_eq hx.symm hy.symm))
              have e0 : (sl.x == sm.x) = true := by simp [hx]
              have e1 : (sl.y == sm.y) = true := by simp [hy]
              replace hx := Lib.hid hx
              replace hy := Lib.hid hy
              go_quiet (fail)
              go_wp2
              go_roundw
              case rel => exact ⟨i + 1, by omega, by go_num, hup2.out, ((hX.out.alloc _).alloc _).drewN _⟩
              case measure => simp [intOf]; omega
            · have hh := Lib.hid (hNo.out (fun e => hy (by rw [e])))
              have e0 : (sl.x == sm.x) = true := by simp [hx]
              have e1 : (sl.y == sm.y) = false := by simp [hy]
              replace hx := Lib.hid hx
              replace hy := Lib.hid hy
              go_quiet (fail)
              go_wp2
              go_ret
              exact ⟨ret_int hh.out.symm, ((hX.out.alloc _).alloc _).drewN _⟩
          · have hh := Lib.hid (hNo.out (fun e => hx (by rw [e])))
            have e0 : (sl.x == sm.x) = false := by simp [hx]
            replace hx := Lib.hid hx
            go_quiet (fail)
            go_wp2
            go_ret
            exact ⟨ret_int hh.out.symm, ((hX.out.alloc _).alloc _).drewN _⟩
        · have hki : ¬ (i : Int) < es.length := by omega
          have hsh := Lib.hid (hup.done hil hi)
          replace hX := Lib.hid hX
          clear hup
          have hcv := Lib.hid (fun w h => c_vertices (.slice A es.length c) es w h (fun e he => by
            obtain ⟨j, hj, rfl⟩ := List.getElem_of_mem he
            have := hlok.out j hj
            have := this.two
            have := (hlok.out j hj).few
            omega) (by omega))
          go_wp2_with fail
          refine (hcv.out _ (h.out.ext edP.stays hX.out)).mono ?_
          rintro e w3 ⟨u, rfl, hu, hx⟩
          obtain ⟨Au, cu, rfl⟩ := hu.slice
          have hE3 := Lib.hid (hX.out.trans hx)
          replace hu := Lib.hid hu
          clear hx
          have hcp := Lib.hid (fun w h => c_pgCheck (.slice Au (verts es).length cu) (verts es) w h)
          go_wp2_with fail
          refine (hcp.out _ hu.out).mono ?_
          rintro e w4 ⟨rfl, hx⟩
          replace hx := Lib.hid hx
          have hh := Lib.hid (hPg.out hall.out hsh.out)
          go_wp2
          go_ret
          exact ⟨ret_int hh.out.symm, hE3.out.trans hx.out⟩

end Go.Proofs.YtiahfiopigjolaaGreat
