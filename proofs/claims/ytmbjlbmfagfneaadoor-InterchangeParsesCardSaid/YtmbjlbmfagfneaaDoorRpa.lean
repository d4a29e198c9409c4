/- Parse of the reference. -/
import Derived.Test.YtmbjlbmfagfneaaDoorRrd
namespace Go.Proofs.YtmbjlbmfagfneaaDoor
open Go Go.RowKit

theorem rpar_end {ex : Exit} (hex : ex = .ret ∨ ex = .normal) {a : Act} {w w' : World} {r : Mk × Int × Nat} {m : Mk} {sv pv : Value} {c : Int} {l g : Nat} (hd : a.defers = []) (h2 : a.tmps.getD 2 undef = .pointer (some ⟨g, 0, none⟩))
    (h3 : a.tmps.getD 3 undef = .int .i64 c) (h4 : a.tmps.getD 4 undef = .int .i64 (l : Nat)) (hb : Blk w' g 27 (mkA m sv pv)) (hsv : RdI w' sv m.sizes) (hpv : RdP w' pv m.places) (hE : Ext w w') (hr : r = (m, c, l)) :
    bodyPost Tryd.prog Tryd.f14 (ParOut r w) ex a w' := by
  obtain ⟨⟨q0, q1, q2, q3, q4, q5⟩, _, _⟩ := hb.parts6
  have key : bodyPost Tryd.prog Tryd.f14 (ParOut r w) .ret a w' := by
    refine ⟨hd, .tuple #[mkV m sv pv, .int .i64 c, .int .i64 (l : Nat)], ?_, ?_⟩
    · rw [results_cell2 rfl, h2, h3, h4]
      unfold mkV
      go_simp
    · subst hr
      exact ⟨_, rfl, ⟨sv, pv, rfl, hsv, hpv⟩, hE⟩
  rcases hex with rfl | rfl
  · exact key
  · exact key

/-- no line feed among the first k bytes -/
structure NoLf (t : ByteArray) (k : Nat) : Prop where
  no : (10 : UInt8) ∉ (bs t).take k
theorem NoLf.next {t : ByteArray} {k : Nat} (h : NoLf t k) (hk : k < (bs t).length) (hc : (bs t)[k] ≠ 10) : NoLf t (k + 1) := by
  refine ⟨?_⟩
  rw [take_snoc _ _ hk]
  intro hm
  rcases List.mem_append.1 hm with h1 | h1
  · exact h.no h1
  · exact hc (List.mem_singleton.1 h1).symm
theorem NoLf.found {t : ByteArray} {k : Nat} (h : NoLf t k) (hk : k < (bs t).length) (hc : (bs t)[k] = 10) : cuts 10 (bs t) = (bs t).take k :: cuts 10 ((bs t).drop (k + 1)) := by
  have e : bs t = (bs t).take k ++ 10 :: (bs t).drop (k + 1) := by
    rw [← hc, ← List.drop_eq_getElem_cons hk, List.take_append_drop]
  exact (congrArg (cuts 10) e).trans (cuts_app h.no _)
theorem NoLf.none {t : ByteArray} {k : Nat} (h : NoLf t k) (hk : ¬ k < t.size) : cuts 10 (bs t) = [bs t] := by
  have := h.no
  rw [List.take_of_length_le (by rw [bs_len]; omega)] at this
  exact cuts_one this
theorem bs_drop (s : ByteArray) (k : Nat) : bs (s.extract k s.size) = (bs s).drop k := by
  unfold bs
  rw [ByteArray.data_extract, Array.toList_extract, List.extract_eq_take_drop]
  exact List.take_of_length_le (by rw [List.length_drop]; exact Nat.le_refl _)

/-- what a read has said, in a world -/
def FinAt (B : Nat) (r : Except Int Mk) (c : Int) (m2 : Mk) (sv pv : Value) (w : World) : Prop := (r = .error c) ∨ (r = .ok m2 ∧ c = 0 ∧ OwnL .i64 3 B w sv m2.sizes ∧ OwnP B w pv m2.places)
theorem fin_ext {B : Nat} {r : Except Int Mk} {c : Int} {m2 : Mk} {sv pv : Value} {w w' : World} (h : FinAt B r c m2 sv pv w) (he : Ext w w') : FinAt B r c m2 sv pv w' := by
  rcases h with h | ⟨h, h0, h1, h2⟩
  · exact .inl h
  · exact .inr ⟨h, h0, h1.ext he, h2.ext he⟩
theorem fin_six {B g : Nat} {r : Except Int Mk} {c : Int} {m2 : Mk} {sv pv : Value} {w : World} {cz : Array Value} {a b d e f x : Value} (h : FinAt B r c m2 sv pv w) (hz : Blk w g 27 cz) :
    FinAt B r c m2 sv pv ((((((w.setCell ⟨g, 0, none⟩ a).setCell ⟨g, 1, none⟩ b).setCell ⟨g, 2, none⟩ d).setCell ⟨g, 3, none⟩ e).setCell ⟨g, 4, none⟩ f).setCell ⟨g, 5, none⟩ x) := by
  rcases h with h | ⟨h, h0, h1, h2⟩
  · exact .inl h
  · exact .inr ⟨h, h0, h1.kept (grown6 _ _ _ _ _ _) (.inr (row_ne h1 hz (by decide))), h2.kept (grown6 _ _ _ _ _ _) (.inr (row_ne h2 hz (by decide)))⟩
theorem grown_alloc {w w' : World} {row : Option Nat} (h : w.grownBy w' row) (o : Obj) : w.grownBy (w'.alloc o) row :=
  ⟨h.os, h.tape, h.output, Nat.le_trans h.size (by rw [size_alloc]; omega), fun i hi hne => (Below.heap_alloc w' o i (Nat.lt_of_lt_of_le hi h.size)).trans (h.block i hi hne)⟩

set_option maxHeartbeats 1000000 in
theorem c_rparse (s : ByteArray) (w : World) (hs : s.size ≤ 9223372036854775807) : Calls Tryd.prog 14 #[.string s] w (ParOut (parse (bs s)) w) := by
  go_enter Tryd.func14, Tryd.ntmps14
  by_cases h20 : 20000 < s.size
  · go_wp2
    refine rpar_end (.inl rfl) (m := Mk.zero) rfl rfl rfl (l := 0) rfl (Blk.new w 27 _) (RdI.nil _) (RdP.nil _) ((Ext.refl w).alloc _) ?_
    unfold parse
    rw [bs_len, if_pos h20]
  · go_wp2
    obtain ⟨w0, hw0⟩ : ∃ w0, w0 = (w.alloc (.cells (mkA Mk.zero (.slice none 0 0) (.slice none 0 0)) 27)).alloc (.cells (mkA Mk.zero (.slice none 0 0) (.slice none 0 0)) 27) := ⟨_, rfl⟩
    have hz0 := Lib.hid (show Blk w0 w.heap.size 27 (mkA Mk.zero (.slice none 0 0) (.slice none 0 0)) from hw0 ▸ (Blk.new w 27 _).alloc _)
    have hm0 := Lib.hid (show MkAt (w.heap.size + 1) (w.heap.size + 1) w0 Mk.zero from MkAt.zero _ _ _ (by omega) (hw0 ▸ Blk.at (by simp)))
    have hE0 := Lib.hid (show Ext w w0 from hw0 ▸ ((Ext.refl w).alloc _).alloc _)
    unfold mkA Mk.zero at hw0
    rw [← hw0]
    clear hw0
    have hp0 : parse (bs s) = YtmbjlbmfagfneaaDoor.go Mk.zero 1 (cuts 10 (bs s)) := by unfold parse; rw [bs_len, if_neg h20]
    replace hp0 := Lib.hid hp0
    go_loopw [0, 6] (fun x i wr => ∃ (t : ByteArray) (k : Nat) (m : Mk), x = .string t ∧ i = .int .i64 (k : Nat) ∧ ParUp s t k m ∧ MkAt (w.heap.size + 1) (w.heap.size + 1) wr m ∧ Blk wr w.heap.size 27 (mkA Mk.zero (.slice none 0 0) (.slice none 0 0)) ∧ Ext w wr) (fun x _ _ => strLen x)
    case atStart => exact ⟨s, 1, Mk.zero, rfl, rfl, ⟨hp0.out, by omega, by omega⟩, hm0.out, hz0.out, hE0.out⟩
    case round =>
      obtain ⟨t, k, m, rfl, rfl, hup, hm, hz, hX⟩ := hrel
      have hlen := hup.len
      have hone := hup.one
      by_cases h0 : t.size = 0
      · have tN : t.toList = [] := by rw [ByteArray.toList_eq]; exact List.length_eq_zero_iff.1 h0
        have tE : t.toList.isEmpty = true := by rw [tN]; rfl
        have hgo := Lib.hid (show parse (bs s) = YtmbjlbmfagfneaaDoor.ends m k [] by
          rw [hup.eq, show bs t = [] from List.length_eq_zero_iff.1 h0, cuts_nil, go_one])
        by_cases h2 : k ≤ 2
        · obtain ⟨⟨q0, q1, q2, q3, q4, q5⟩, ⟨f0, f1, f2, f3, f4, f5⟩, hlt⟩ := hz.parts6
          replace hz := Lib.hid hz
          replace hm := Lib.hid hm
          replace hX := Lib.hid hX
          go_wp2
          refine rpar_end (by first | exact .inl rfl | exact .inr rfl) (m := Mk.zero) rfl rfl rfl (l := k) rfl (hz.out.six (m' := Mk.zero)) (RdI.nil _) (RdP.nil _) (hX.out.six (Nat.le_refl _) _ _ _ _ _ _) ?_
          rw [hgo.out]; unfold YtmbjlbmfagfneaaDoor.ends; rw [if_pos rfl, if_pos h2]
        · obtain ⟨⟨q0, q1, q2, q3, q4, q5⟩, ⟨f0, f1, f2, f3, f4, f5⟩, hlt⟩ := hz.parts6
          obtain ⟨hB, sv, pv, hb, hsv, hpv⟩ := hm
          obtain ⟨As, cs, rfl⟩ := hsv.slice
          obtain ⟨Ap, cp, rfl⟩ := hpv.slice
          obtain ⟨⟨p0, p1, p2, p3, p4, p5⟩, _, plt⟩ := hb.parts6
          replace hz := Lib.hid hz
          replace hX := Lib.hid hX
          replace hb := Lib.hid hb
          replace hsv := Lib.hid hsv
          replace hpv := Lib.hid hpv
          go_wp2
          refine rpar_end (by first | exact .inl rfl | exact .inr rfl) (m := m) rfl rfl rfl (l := 0) rfl (hz.out.six (m' := m)) (hsv.out.kept (grown6 _ _ _ _ _ _) (.inr (row_ne hsv.out hz.out (by decide)))).rdI (hpv.out.kept (grown6 _ _ _ _ _ _) (.inr (row_ne hpv.out hz.out (by decide)))).rdP (hX.out.six (Nat.le_refl _) _ _ _ _ _ _) ?_
          rw [hgo.out]; unfold YtmbjlbmfagfneaaDoor.ends; rw [if_pos rfl, if_neg h2]
      · have tN : ¬ t.toList = [] := by rw [ByteArray.toList_eq]; exact fun h => h0 (List.length_eq_zero_iff.2 h)
        have tE : t.toList.isEmpty = false := by
          cases e : t.toList.isEmpty with
          | false => rfl
          | true => exact absurd (List.isEmpty_iff.1 e) tN
        replace hz := Lib.hid hz
        replace hm := Lib.hid hm
        replace hX := Lib.hid hX
        go_wp2
        all_goals
          go_loop [7] (fun i => ∃ n : Nat, n ≤ t.size ∧ i = .int .i64 (n : Nat) ∧ NoLf t n) (fun i => t.size - (intOf i).toNat)
          case atStart => exact ⟨0, Nat.zero_le _, rfl, ⟨by simp⟩⟩
          case round =>
            obtain ⟨n, hn, rfl, hno⟩ := hrel
            by_cases hlt : n < t.size
            · have hnl : n < (bs t).length := by rw [bs_len]; exact hlt
              rcases hb : ((t[n].toNat : Int) == 10) with _ | _
              · have hno2 := Lib.hid (hno.next hnl (byte10_no hb))
                go_wp2
                go_round
                case rel => exact ⟨n + 1, by omega, by go_num, hno2.out⟩
                case measure => simp [intOf]; omega
              · have hcut := Lib.hid (hno.found hnl (byte10 hb))
                obtain ⟨T, hT⟩ : ∃ T, T = t.extract 0 n := ⟨_, rfl⟩
                have hTb : bs T = (bs t).take n := by rw [hT, bs_take, bs_ofB]
                have hTs : T.size = n := by rw [← bs_len, hTb, List.length_take, bs_len]; omega
                obtain ⟨S, hS⟩ : ∃ S, S = t.extract (n + 1) t.size := ⟨_, rfl⟩
                have hSb : bs S = (bs t).drop (n + 1) := by rw [hS, bs_drop]
                have hSs : S.size + (n + 1) = t.size := by rw [← bs_len, hSb, List.length_drop, bs_len]; omega
                rw [← hTb, ← hSb] at hcut
                have hTe : t.extract 0 n = T := hT.symm
                have hSe : t.extract (n + 1) t.size = S := hS.symm
                clear hT hS hTb hSb
                obtain ⟨hBq, sv, pv, hbm, hsv, hpv⟩ := hm.out
                obtain ⟨As, cs, rfl⟩ := hsv.slice
                obtain ⟨Ap, cp, rfl⟩ := hpv.slice
                obtain ⟨⟨p0, p1, p2, p3, p4, p5⟩, ⟨e0, e1, e2, e3, e4, e5⟩, plt⟩ := hbm.parts6
                replace hbm := Lib.hid hbm
                replace hsv := Lib.hid hsv
                replace hpv := Lib.hid hpv
                have i0 : (0 : Int) ≤ (n : Int) := by omega
                have i1 : (n : Int) ≤ (t.size : Int) := by omega
                have hBw := Lib.hid (show w.heap.size + 1 ≤ wr.heap.size by have := hz.out.lt; omega)
                obtain ⟨wZ, hwZ⟩ : ∃ wZ, wZ = (wr.alloc (.cells #[.int .i64 0, .int .i64 0, .int .i64 0, .int .i64 0, .slice none 0 0, .slice none 0 0] 27)).drew := ⟨_, rfl⟩
                have hEZ := Lib.hid (show Ext wr wZ from hwZ ▸ ((Ext.refl wr).alloc _).drew)
                have hbZ := Lib.hid (show Blk wZ wr.heap.size 27 (mkA Mk.zero (.slice none 0 0) (.slice none 0 0)) from hwZ ▸ (Blk.new wr 27 _).drew)
                have hwZ2 := Lib.hid hwZ
                have hBZ := Lib.hid (Nat.le_trans hBw.out hEZ.out.size)
                clear hwZ
                have hc1 := c_rread (w.heap.size + 1) m (.slice As m.sizes.length cs) (.slice Ap m.places.length cp) k T wr.drew hBw.out (hsv.out.ext (Ext.refl wr).drew) (hpv.out.ext (Ext.refl wr).drew) (by omega)
                have hc2 := c_rread (w.heap.size + 1) m (.slice As m.sizes.length cs) (.slice Ap m.places.length cp) k T wZ hBZ.out (hsv.out.ext hEZ.out) (hpv.out.ext hEZ.out) (by omega)
                unfold mkV at hc1 hc2
                replace hc1 := Lib.hid hc1
                replace hc2 := Lib.hid hc2
                go_wp2
                go_region_law (first
                  | (go_simp; go_at_call 28; (with_reducible refine (hc1.out).mono ?_); intro e w2 he; have hgr := grown_after (Ext.refl wr).drew he.1; obtain ⟨m2, A1, n1, k1, A2, n2, k2, c, rfl, hfin⟩ := he.shape; replace hgr := Lib.hid hgr; replace hfin := Lib.hid hfin; clear he; unfold mkV)
                  | (go_simp; rw [← hwZ2.out]; go_at_call 28; (with_reducible refine (hc2.out).mono ?_); intro e w2 he; have hbn := hbZ.out.grown he.1 (fun t => row_ne (hpv.out.ext hEZ.out) hbZ.out (by decide) t.symm); have hgr := grown_after hEZ.out he.1; obtain ⟨m2, A1, n1, k1, A2, n2, k2, c, rfl, hfin⟩ := he.shape; obtain ⟨⟨v0, v1, v2, v3, v4, v5⟩, ⟨g0, g1, g2, g3, g4, g5⟩, vlt⟩ := hbn.parts6; replace hbn := Lib.hid hbn; replace hgr := Lib.hid hgr; replace hfin := Lib.hid hfin; clear he; unfold mkV))
                all_goals
                  first
                    | (have hbn3 := hbn.out.six (m' := m2) (sv' := .slice A1 n1 k1) (pv' := .slice A2 n2 k2); have hgr3 := grown_six hgr.out (Nat.le_refl wr.heap.size) (.int .i64 m2.len) (.int .i64 m2.wid) (.int .i64 m2.rx) (.int .i64 m2.ry) (.slice A1 n1 k1) (.slice A2 n2 k2); have hfin3 : FinAt (w.heap.size + 1) (rdLine m k (bs T)) c m2 (.slice A1 n1 k1) (.slice A2 n2 k2) ((((((w2.setCell ⟨wr.heap.size, 0, none⟩ (.int .i64 m2.len)).setCell ⟨wr.heap.size, 1, none⟩ (.int .i64 m2.wid)).setCell ⟨wr.heap.size, 2, none⟩ (.int .i64 m2.rx)).setCell ⟨wr.heap.size, 3, none⟩ (.int .i64 m2.ry)).setCell ⟨wr.heap.size, 4, none⟩ (.slice A1 n1 k1)).setCell ⟨wr.heap.size, 5, none⟩ (.slice A2 n2 k2)) := fin_six hfin.out hbn.out; obtain ⟨w3, hw3⟩ : ∃ w3, w3 = ((((((w2.setCell ⟨wr.heap.size, 0, none⟩ (.int .i64 m2.len)).setCell ⟨wr.heap.size, 1, none⟩ (.int .i64 m2.wid)).setCell ⟨wr.heap.size, 2, none⟩ (.int .i64 m2.rx)).setCell ⟨wr.heap.size, 3, none⟩ (.int .i64 m2.ry)).setCell ⟨wr.heap.size, 4, none⟩ (.slice A1 n1 k1)).setCell ⟨wr.heap.size, 5, none⟩ (.slice A2 n2 k2)) := ⟨_, rfl⟩; rw [← hw3] at hbn3 hgr3 hfin3 ⊢; clear hw3)
                    | (have hbn3 := Blk.new w2 27 #[.int .i64 m2.len, .int .i64 m2.wid, .int .i64 m2.rx, .int .i64 m2.ry, .slice A1 n1 k1, .slice A2 n2 k2]; have hgr3 := grown_alloc hgr.out (.cells #[.int .i64 m2.len, .int .i64 m2.wid, .int .i64 m2.rx, .int .i64 m2.ry, .slice A1 n1 k1, .slice A2 n2 k2] 27); have hfin3 : FinAt (w.heap.size + 1) (rdLine m k (bs T)) c m2 (.slice A1 n1 k1) (.slice A2 n2 k2) (w2.alloc (.cells #[.int .i64 m2.len, .int .i64 m2.wid, .int .i64 m2.rx, .int .i64 m2.ry, .slice A1 n1 k1, .slice A2 n2 k2] 27)) := fin_ext hfin.out ((Ext.refl w2).alloc _); obtain ⟨w3, hw3⟩ : ∃ w3, w3 = w2.alloc (.cells #[.int .i64 m2.len, .int .i64 m2.wid, .int .i64 m2.rx, .int .i64 m2.ry, .slice A1 n1 k1, .slice A2 n2 k2] 27) := ⟨_, rfl⟩; rw [← hw3] at hbn3 hgr3 hfin3 ⊢; clear hw3)
                  have hr3 := hz.out.grown hgr3 (fun t => row_ne hpv.out hz.out (by decide) t.symm)
                  have hu3 := hbm.out.grown hgr3 (fun t => row_ne hpv.out hbm.out (by decide) t.symm)
                  have hX3 := Lib.hid (hX.out.grown hgr3 (fun g hg => Nat.le_trans (Nat.le_succ _) (hpv.out.base g hg)))
                  replace hgr3 := Lib.hid hgr3
                  try clear v0 v1 v2 v3 v4 v5 g0 g1 g2 g3 g4 g5 vlt hbn
                  clear p0 p1 p2 p3 p4 p5 e0 e1 e2 e3 e4 e5 plt hgr hfin hc1 hc2 hEZ hbZ hwZ2 hBZ
                  obtain ⟨⟨q0, q1, q2, q3, q4, q5⟩, ⟨f0, f1, f2, f3, f4, f5⟩, hlt3⟩ := hr3.parts6
                  obtain ⟨⟨p0, p1, p2, p3, p4, p5⟩, ⟨e0, e1, e2, e3, e4, e5⟩, plt⟩ := hu3.parts6
                  obtain ⟨⟨n0, n1', n2', n3, n4, n5⟩, _, nlt⟩ := (show Blk w3 _ 27 (mkA m2 (.slice A1 n1 k1) (.slice A2 n2 k2)) from hbn3).parts6
                  replace hbn3 := Lib.hid hbn3
                  replace hr3 := Lib.hid hr3
                  replace hu3 := Lib.hid hu3
                  have hcn := Lib.hid (cuts_ne_nil 10 (bs S))
                  rcases hfin3 with hr | ⟨hr, rfl, ho1, ho2⟩
                  · have hc0 : (c == 0) = false := by
                      have := rd_err hr
                      simp; omega
                    have hg2 := Lib.hid (hup.eq.trans ((congrArg (YtmbjlbmfagfneaaDoor.go m k) hcut.out).trans (go_err hcn.out hr)))
                    replace hr := Lib.hid hr
                    go_wp2
                    refine rpar_end (by first | exact .inl rfl | exact .inr rfl) (m := Mk.zero) rfl rfl rfl (l := k) rfl (hr3.out.six (m' := Mk.zero)) (RdI.nil _) (RdP.nil _) (hX3.out.six (Nat.le_refl _) _ _ _ _ _ _) ?_
                    exact hg2.out
                  · have hg2 := Lib.hid (hup.eq.trans ((congrArg (YtmbjlbmfagfneaaDoor.go m k) hcut.out).trans (go_ok hcn.out hr)))
                    replace hr := Lib.hid hr
                    replace ho1 := Lib.hid ho1
                    replace ho2 := Lib.hid ho2
                    go_wp2
                    go_roundw
                    case rel =>
                      refine ⟨S, k + 1, m2, rfl, by go_num, ⟨hg2.out, by omega, by omega⟩, ⟨Nat.le_refl _, _, _, hu3.out.six (m' := m2), ?_, ?_⟩, hr3.out.grown (grown6 _ _ _ _ _ _) (by simp), hX3.out.six (Nat.le_succ _) _ _ _ _ _ _⟩
                      · exact ho1.out.kept (grown6 _ _ _ _ _ _) (.inr (row_ne ho1.out hu3.out (by decide)))
                      · exact ho2.out.kept (grown6 _ _ _ _ _ _) (.inr (row_ne ho2.out hu3.out (by decide)))
                    case measure => simp [strLen]; omega
            · have hc1 := Lib.hid (hno.none hlt)
              obtain rfl : n = t.size := by omega
              obtain ⟨⟨q0, q1, q2, q3, q4, q5⟩, ⟨f0, f1, f2, f3, f4, f5⟩, hltz⟩ := hz.out.parts6
              go_wp2
              refine rpar_end (by first | exact .inl rfl | exact .inr rfl) (m := Mk.zero) rfl rfl rfl (l := k) rfl (hz.out.six (m' := Mk.zero)) (RdI.nil _) (RdP.nil _) (hX.out.six (Nat.le_refl _) _ _ _ _ _ _) ?_
              rw [hup.eq, hc1.out, go_one]
              unfold YtmbjlbmfagfneaaDoor.ends
              rw [if_neg (fun h => h0 (by rw [← bs_len, h]; rfl))]

end Go.Proofs.YtmbjlbmfagfneaaDoor
