/- Parse of the program. -/
import Derived.Test.YtmbjlbmfagfneaaDoorCut
import Derived.Laws.ResultCell
namespace Go.Proofs.YtmbjlbmfagfneaaDoor
open Go Go.RowKit

theorem results_cell2 {fn : Func} {p u u' : Tmp} {ty : TypeId} (h : fn.results = #[.cell p ty, .tmp u, .tmp u']) (tmps : Array Value) (P : Program) (w : World) :
    (results fn tmps).run P w =
      ((asAddr (tmps.getD p undef)).run P w).andThen fun a w₁ => ((loadVar ty a).run P w₁).andThen fun v w₂ => .ok (.tuple #[v, tmps.getD u undef, tmps.getD u' undef]) w₂ := by
  simp only [results, h]
  simp [Sem.run_bind, Result.andThen]

/-- how Parse ends -/
def ParOut (r : Mk × Int × Nat) (w : World) (e : Ending) (w' : World) : Prop :=
  ∃ v, e = .returned (.tuple #[v, .int .i64 r.2.1, .int .i64 (r.2.2 : Nat)]) ∧ RdM w' v r.1 ∧ Ext w w'

theorem par_end {ex : Exit} (hex : ex = .ret ∨ ex = .normal) {a : Act} {w w' : World} {r : Mk × Int × Nat} {m : Mk} {sv pv : Value} {c : Int} {l g : Nat} (hd : a.defers = []) (h2 : a.tmps.getD 2 undef = .pointer (some ⟨g, 0, none⟩))
    (h3 : a.tmps.getD 3 undef = .int .i64 c) (h4 : a.tmps.getD 4 undef = .int .i64 (l : Nat)) (hb : Blk w' g 27 (mkA m sv pv)) (hsv : RdI w' sv m.sizes) (hpv : RdP w' pv m.places) (hE : Ext w w') (hr : r = (m, c, l)) :
    bodyPost Tryd.prog Tryd.f13 (ParOut r w) ex a w' := by
  have q0 : w'.cell? ⟨g, 0, none⟩ = some (.int .i64 m.len) := hb.cell 0
  have q1 : w'.cell? ⟨g, 1, none⟩ = some (.int .i64 m.wid) := hb.cell 1
  have q2 : w'.cell? ⟨g, 2, none⟩ = some (.int .i64 m.rx) := hb.cell 2
  have q3 : w'.cell? ⟨g, 3, none⟩ = some (.int .i64 m.ry) := hb.cell 3
  have q4 : w'.cell? ⟨g, 4, none⟩ = some sv := hb.cell 4
  have q5 : w'.cell? ⟨g, 5, none⟩ = some pv := hb.cell 5
  have key : bodyPost Tryd.prog Tryd.f13 (ParOut r w) .ret a w' := by
    refine ⟨hd, .tuple #[mkV m sv pv, .int .i64 c, .int .i64 (l : Nat)], ?_, ?_⟩
    · rw [results_cell2 rfl, h2, h3, h4]
      unfold mkV
      go_simp
    · subst hr
      exact ⟨_, rfl, ⟨sv, pv, rfl, hsv, hpv⟩, hE⟩
  rcases hex with rfl | rfl
  · exact key
  · exact key

def strLen : Value → Nat
  | .string t => t.size
  | _ => 0

theorem Blk.six {w : World} {g : Nat} {m m' : Mk} {sv pv sv' pv' : Value} (h : Blk w g 27 (mkA m sv pv)) :
    Blk ((((((w.setCell ⟨g, 0, none⟩ (.int .i64 m'.len)).setCell ⟨g, 1, none⟩ (.int .i64 m'.wid)).setCell ⟨g, 2, none⟩ (.int .i64 m'.rx)).setCell ⟨g, 3, none⟩ (.int .i64 m'.ry)).setCell ⟨g, 4, none⟩ sv').setCell ⟨g, 5, none⟩ pv') g 27 (mkA m' sv' pv') := by
  have k0 := h.set_ 0 (.int .i64 m'.len)
  have k1 := k0.set_ 1 (.int .i64 m'.wid)
  have k2 := k1.set_ 2 (.int .i64 m'.rx)
  have k3 := k2.set_ 3 (.int .i64 m'.ry)
  have k4 := k3.set_ 4 sv'
  have k5 := k4.set_ 5 pv'
  exact k5
theorem Ext.six {w w' : World} {g : Nat} (h : Ext w w') (hg : w.heap.size ≤ g) (a b c d e f : Value) :
    Ext w ((((((w'.setCell ⟨g, 0, none⟩ a).setCell ⟨g, 1, none⟩ b).setCell ⟨g, 2, none⟩ c).setCell ⟨g, 3, none⟩ d).setCell ⟨g, 4, none⟩ e).setCell ⟨g, 5, none⟩ f) :=
  (((((h.setCell (p := ⟨g, 0, none⟩) hg a).setCell (p := ⟨g, 1, none⟩) hg b).setCell (p := ⟨g, 2, none⟩) hg c).setCell (p := ⟨g, 3, none⟩) hg d).setCell (p := ⟨g, 4, none⟩) hg e).setCell (p := ⟨g, 5, none⟩) hg f
theorem grown6 {w : World} {g : Nat} (a b c d e f : Value) : w.grownBy ((((((w.setCell ⟨g, 0, none⟩ a).setCell ⟨g, 1, none⟩ b).setCell ⟨g, 2, none⟩ c).setCell ⟨g, 3, none⟩ d).setCell ⟨g, 4, none⟩ e).setCell ⟨g, 5, none⟩ f) (some g) :=
  ((((((grown_set g 0 a).trans (grown_set g 1 b)).trans (grown_set g 2 c)).trans (grown_set g 3 d)).trans (grown_set g 4 e)).trans (grown_set g 5 f))

/-- the cells of a marker's block, as a walk wants them -/
theorem Blk.parts6 {w : World} {g : Nat} {m : Mk} {sv pv : Value} (h : Blk w g 27 (mkA m sv pv)) :
    (w.cell? ⟨g, 0, none⟩ = some (.int .i64 m.len) ∧ w.cell? ⟨g, 1, none⟩ = some (.int .i64 m.wid) ∧ w.cell? ⟨g, 2, none⟩ = some (.int .i64 m.rx) ∧ w.cell? ⟨g, 3, none⟩ = some (.int .i64 m.ry) ∧ w.cell? ⟨g, 4, none⟩ = some sv ∧ w.cell? ⟨g, 5, none⟩ = some pv) ∧
    (w.frozen? ⟨g, 0, none⟩ = false ∧ w.frozen? ⟨g, 1, none⟩ = false ∧ w.frozen? ⟨g, 2, none⟩ = false ∧ w.frozen? ⟨g, 3, none⟩ = false ∧ w.frozen? ⟨g, 4, none⟩ = false ∧ w.frozen? ⟨g, 5, none⟩ = false) ∧ g < w.heap.size :=
  ⟨⟨h.cell 0, h.cell 1, h.cell 2, h.cell 3, h.cell 4, h.cell 5⟩, ⟨h.frozen 0, h.frozen 1, h.frozen 2, h.frozen 3, h.frozen 4, h.frozen 5⟩, h.lt⟩

/-- what Parse's loop keeps: t is what is left, k the line, m the marker so far -/
structure ParUp (s t : ByteArray) (k : Nat) (m : Mk) : Prop where
  eq : parse (bs s) = YtmbjlbmfagfneaaDoor.go m k (cuts 10 (bs t))
  one : 1 ≤ k
  len : k + t.size ≤ 20001

set_option maxHeartbeats 1000000 in
theorem c_parse (s : ByteArray) (w : World) (ht : Tab w) (hs : s.size ≤ 9223372036854775807) : Calls Tryd.prog 13 #[.string s] w (ParOut (parse (bs s)) w) := by
  go_enter Tryd.func13, Tryd.ntmps13
  by_cases h20 : 20000 < s.size
  · go_wp2
    refine par_end (.inl rfl) (m := Mk.zero) rfl rfl rfl (l := 0) rfl (Blk.new w 27 _) (RdI.nil _) (RdP.nil _) ((Ext.refl w).alloc _) ?_
    unfold parse
    rw [bs_len, if_pos h20]
  · go_wp2
    obtain ⟨w0, hw0⟩ : ∃ w0, w0 = (w.alloc (.cells (mkA Mk.zero (.slice none 0 0) (.slice none 0 0)) 27)).alloc (.cells (mkA Mk.zero (.slice none 0 0) (.slice none 0 0)) 27) := ⟨_, rfl⟩
    have hz0 := Lib.hid (show Blk w0 w.heap.size 27 (mkA Mk.zero (.slice none 0 0) (.slice none 0 0)) from hw0 ▸ (Blk.new w 27 _).alloc _)
    have hm0 := Lib.hid (show MkAt (w.heap.size + 1) (w.heap.size + 1) w0 Mk.zero from MkAt.zero _ _ _ (by omega) (hw0 ▸ Blk.at (by simp)))
    have hE0 := Lib.hid (show Ext w w0 from hw0 ▸ ((Ext.refl w).alloc _).alloc _)
    unfold mkA Mk.zero at hw0
    rw [← hw0]
    clear hw0
    have hp0 : parse (bs s) = YtmbjlbmfagfneaaDoor.go Mk.zero 1 (cuts 10 (bs s)) := by unfold parse; rw [bs_len, if_neg h20]
    replace hp0 := Lib.hid hp0
    replace ht := Lib.hid ht
    go_loopw [0, 6] (fun x i wr => ∃ (t : ByteArray) (k : Nat) (m : Mk), x = .string t ∧ i = .int .i64 (k : Nat) ∧ ParUp s t k m ∧ MkAt (w.heap.size + 1) (w.heap.size + 1) wr m ∧ Blk wr w.heap.size 27 (mkA Mk.zero (.slice none 0 0) (.slice none 0 0)) ∧ Ext w wr) (fun x _ _ => strLen x)
    case atStart => exact ⟨s, 1, Mk.zero, rfl, rfl, ⟨hp0.out, by omega, by omega⟩, hm0.out, hz0.out, hE0.out⟩
    case round =>
      obtain ⟨t, k, m, rfl, rfl, hup, hm, hz, hX⟩ := hrel
      have hlen := hup.len
      have hone := hup.one
      by_cases h0 : t.size = 0
      · have tN : t.toList = [] := by rw [ByteArray.toList_eq]; exact List.length_eq_zero_iff.1 h0
        have tE : t.toList.isEmpty = true := by rw [tN]; rfl
        have hgo := Lib.hid (show parse (bs s) = YtmbjlbmfagfneaaDoor.ends m k [] by
          rw [hup.eq, show bs t = [] from List.length_eq_zero_iff.1 h0, cuts_nil, go_one])
        by_cases h2 : k ≤ 2
        · obtain ⟨⟨q0, q1, q2, q3, q4, q5⟩, ⟨f0, f1, f2, f3, f4, f5⟩, hlt⟩ := hz.parts6
          replace hz := Lib.hid hz
          replace hm := Lib.hid hm
          replace hX := Lib.hid hX
          go_wp2
          refine par_end (.inl rfl) (m := Mk.zero) rfl rfl rfl (l := k) rfl (hz.out.six (m' := Mk.zero)) (RdI.nil _) (RdP.nil _) (hX.out.six (Nat.le_refl _) _ _ _ _ _ _) ?_
          rw [hgo.out]; unfold YtmbjlbmfagfneaaDoor.ends; rw [if_pos rfl, if_pos h2]
        · obtain ⟨⟨q0, q1, q2, q3, q4, q5⟩, ⟨f0, f1, f2, f3, f4, f5⟩, hlt⟩ := hz.parts6
          obtain ⟨hB, sv, pv, hb, hsv, hpv⟩ := hm
          obtain ⟨As, cs, rfl⟩ := hsv.slice
          obtain ⟨Ap, cp, rfl⟩ := hpv.slice
          obtain ⟨⟨p0, p1, p2, p3, p4, p5⟩, _, plt⟩ := hb.parts6
          replace hz := Lib.hid hz
          replace hX := Lib.hid hX
          replace hb := Lib.hid hb
          replace hsv := Lib.hid hsv
          replace hpv := Lib.hid hpv
          go_wp2
          refine par_end (by first | exact .inl rfl | exact .inr rfl) (m := m) rfl rfl rfl (l := 0) rfl (hz.out.six (m' := m)) (hsv.out.kept (grown6 _ _ _ _ _ _) (.inr (row_ne hsv.out hz.out (by decide)))).rdI (hpv.out.kept (grown6 _ _ _ _ _ _) (.inr (row_ne hpv.out hz.out (by decide)))).rdP (hX.out.six (Nat.le_refl _) _ _ _ _ _ _) ?_
          rw [hgo.out]; unfold YtmbjlbmfagfneaaDoor.ends; rw [if_pos rfl, if_neg h2]
      · have tN : ¬ t.toList = [] := by rw [ByteArray.toList_eq]; exact fun h => h0 (List.length_eq_zero_iff.2 h)
        have tE : t.toList.isEmpty = false := by
          cases e : t.toList.isEmpty with
          | false => rfl
          | true => exact absurd (List.isEmpty_iff.1 e) tN
        obtain ⟨⟨q0, q1, q2, q3, q4, q5⟩, ⟨f0, f1, f2, f3, f4, f5⟩, hlt⟩ := hz.parts6
        replace hz := Lib.hid hz
        replace hm := Lib.hid hm
        replace hX := Lib.hid hX
        go_wp2_with fail
        all_goals
          refine (l_cut t _ (ht.out.ext hX.out) (by omega)).mono ?_
          rintro e w1 ⟨rfl, hX1⟩
          have hE1 := Lib.hid (hX.out.trans hX1)
          have hz1 := hz.out.ext hX1
          have hm1 := Lib.hid (hm.out.ext hX1)
          clear q0 q1 q2 q3 q4 q5 f0 f1 f2 f3 f4 f5 hlt
          obtain ⟨⟨q0, q1, q2, q3, q4, q5⟩, ⟨f0, f1, f2, f3, f4, f5⟩, hlt⟩ := hz1.parts6
          replace hz1 := Lib.hid hz1
          rcases cuts_cut 10 (bs t) with ⟨hc1, hc2, hc3⟩ | ⟨hc1, hc2⟩
          rotate_left
          · rw [hc1]
            replace hc1 := Lib.hid hc1
            go_wp2
            refine par_end (by first | exact .inl rfl | exact .inr rfl) (m := Mk.zero) rfl rfl rfl (l := k) rfl (hz1.out.six (m' := Mk.zero)) (RdI.nil _) (RdP.nil _) (hE1.out.six (Nat.le_refl _) _ _ _ _ _ _) ?_
            rw [hup.eq, hc2, go_one]
            unfold YtmbjlbmfagfneaaDoor.ends
            rw [if_neg (fun h => h0 (by rw [← bs_len, h]; rfl))]
          · rw [hc1]
            obtain ⟨tx, htx⟩ : ∃ tx, tx = ofB (cut1 10 (bs t)).1 := ⟨_, rfl⟩
            obtain ⟨rs, hrs⟩ : ∃ rs, rs = ofB (cut1 10 (bs t)).2.1 := ⟨_, rfl⟩
            rw [← htx, ← hrs]
            have hbx : bs tx = (cut1 10 (bs t)).1 := by rw [htx]; rfl
            have hbr : bs rs = (cut1 10 (bs t)).2.1 := by rw [hrs]; rfl
            rw [← hbx, ← hbr] at hc2 hc3
            rw [bs_len, bs_len, bs_len] at hc3
            clear htx hrs hbx hbr
            replace hc1 := Lib.hid hc1
            replace hc2 := Lib.hid hc2
            go_wp2_with fail
            refine (c_readLine (w.heap.size + 1) m (w.heap.size + 1) k tx _ hz1.out.lt hm1.out (ht.out.ext hE1.out) (by omega)).mono ?_
            rintro e w2 ⟨hB2, hrl⟩
            have hE2 := Lib.hid (hE1.out.trans_below (hB2.mono (Nat.le_succ _)))
            have hz2 := hz1.out.below hB2 (Nat.lt_succ_self _)
            clear q0 q1 q2 q3 q4 q5 f0 f1 f2 f3 f4 f5 hlt
            obtain ⟨⟨q0, q1, q2, q3, q4, q5⟩, ⟨f0, f1, f2, f3, f4, f5⟩, hlt⟩ := hz2.parts6
            replace hz2 := Lib.hid hz2
            replace hB2 := Lib.hid hB2
            have hgo := Lib.hid (hup.eq.trans (by rw [hc2.out]))
            have hcn := Lib.hid (cuts_ne_nil 10 (bs rs))
            cases hr : rdLine m k (bs tx) with
            | error n =>
              rw [hr] at hrl
              subst hrl
              have hn := rd_err hr
              have hn0 : (n == 0) = false := by simp; omega
              have hg2 := Lib.hid (hgo.out.trans (go_err hcn.out hr))
              replace hr := Lib.hid hr
              clear hn
              go_wp2
              refine par_end (by first | exact .inl rfl | exact .inr rfl) (m := Mk.zero) rfl rfl rfl (l := k) rfl (hz2.out.six (m' := Mk.zero)) (RdI.nil _) (RdP.nil _) (hE2.out.six (Nat.le_refl _) _ _ _ _ _ _) ?_
              exact hg2.out
            | ok m' =>
              rw [hr] at hrl
              obtain ⟨rfl, hm2⟩ := hrl
              replace hm2 := Lib.hid hm2
              have hg2 := Lib.hid (hgo.out.trans (go_ok hcn.out hr))
              replace hr := Lib.hid hr
              clear q0 q1 q2 q3 q4 q5 f0 f1 f2 f3 f4 f5
              go_wp2
              go_roundw
              case rel => exact ⟨rs, k + 1, m', rfl, by go_num, ⟨hg2.out, by omega, by omega⟩, hm2.out, hz2.out, hE2.out⟩
              case measure => simp [strLen]; omega

end Go.Proofs.YtmbjlbmfagfneaaDoor
