/- readHead of the program. -/
import Derived.Test.YtmbjlbmfagfneaaDoorRds
import Derived.BigRegion
import Derived.ChangeAlike
namespace Go.Proofs.YtmbjlbmfagfneaaDoor
open Go Go.RowKit

theorem head_no {m : Mk} {w : B} {r : List B} (h : nums r = none) : rdHead m w r = .error 2 := by rw [rdHead, h]
theorem head_word {m : Mk} {w : B} {r : List B} (h : w ≠ Tmarker) : rdHead m w r = .error 2 := by
  rw [rdHead]
  split
  · rw [if_neg h]
  · rfl
theorem head_len {m : Mk} {w : B} {r : List B} {l : List Int} (hn : nums r = some l) (hl : l.length ≠ 4) : rdHead m w r = .error 2 := by
  rw [rdHead, hn]
  split
  · rename_i h
    have := Option.some.inj h
    subst this
    exact absurd rfl hl
  · rfl
theorem head_four {m : Mk} {w : B} {r : List B} {a b c d : Int} (hn : nums r = some [a, b, c, d]) (h : w = Tmarker) : rdHead m w r = if headOk a b c d then .ok { m with len := a, wid := b, rx := c, ry := d } else .error 3 := by
  rw [rdHead, hn]
  show (if w = Tmarker then _ else _) = _
  rw [if_pos h]

theorem four_of {l : List Int} (h : l.length = 4) : ∃ a b c d, l = [a, b, c, d] := by
  match l, h with
  | [a, b, c, d], _ => exact ⟨a, b, c, d, rfl⟩

theorem headOk_all (a b c d : Int) : headOk a b c d = [a, b, c, d].all (inR 0 1048576) := by simp [headOk, Bool.and_assoc]

theorem MkAt.set1 {B p : Nat} {w : World} {m : Mk} (h : MkAt B p w m) (i : Nat) (u : Value) (m' : Mk) (hs : m'.sizes = m.sizes) (hp : m'.places = m.places) (hc : ∀ sv pv, (mkA m sv pv).setIfInBounds i u = mkA m' sv pv) :
    MkAt B p (w.setCell ⟨p, i, none⟩ u) m' := by
  obtain ⟨h0, sv, pv, h1, h2, h3⟩ := h
  refine ⟨h0, sv, pv, hc sv pv ▸ h1.set_ i u, ?_, ?_⟩
  · rw [hs]; exact h2.kept (grown_set p i u) (.inr (row_ne h2 h1 (by decide)))
  · rw [hp]; exact h3.kept (grown_set p i u) (.inr (row_ne h3 h1 (by decide)))
theorem MkAt.drew {B p : Nat} {w : World} {m : Mk} (h : MkAt B p w m) : MkAt B p w.drew m := h.ext (Ext.refl w).drew
theorem MkAt.setHead {B p : Nat} {w : World} {m : Mk} (h : MkAt B p w m) (a b c d : Int) :
    MkAt B p ((((w.setCell ⟨p, 0, none⟩ (.int .i64 a)).setCell ⟨p, 1, none⟩ (.int .i64 b)).setCell ⟨p, 2, none⟩ (.int .i64 c)).setCell ⟨p, 3, none⟩ (.int .i64 d)).drew { m with len := a, wid := b, rx := c, ry := d } := by
  have k0 := MkAt.set1 h 0 (.int .i64 a) { m with len := a } rfl rfl (fun _ _ => rfl)
  have k1 := MkAt.set1 k0 1 (.int .i64 b) { m with len := a, wid := b } rfl rfl (fun _ _ => rfl)
  have k2 := MkAt.set1 k1 2 (.int .i64 c) { m with len := a, wid := b, rx := c } rfl rfl (fun _ _ => rfl)
  have k3 := MkAt.set1 k2 3 (.int .i64 d) { m with len := a, wid := b, rx := c, ry := d } rfl rfl (fun _ _ => rfl)
  exact MkAt.drew k3

set_option maxHeartbeats 1000000 in
theorem c_readHead (B : Nat) (m : Mk) (p : Nat) (v : Value) (x : ByteArray) (r : List ByteArray) (w : World) (hB : B ≤ w.heap.size) (hp : MkAt B p w m) (h : RdS w v (x :: r)) (hs : ∀ y ∈ r, y.size ≤ 30000) (hl : r.length ≤ 100000) :
    Calls Tryd.prog 34 #[.pointer (some ⟨p, 0, none⟩), v] w (RdEnd B p (rdHead m (bs x) (r.map bs)) w) := by
  obtain ⟨A, cap, rfl⟩ : ∃ A cap, v = .slice A (r.length + 1) cap := by
    obtain ⟨A, cap, e, _⟩ := h; exact ⟨A, cap, e⟩
  obtain ⟨b, o, rfl, hx0, hc1, hc2, ht⟩ := h.tail
  clear h
  unfold maxLen at hc2
  replace ht := Lib.hid ht
  replace hp := Lib.hid hp
  go_enter Tryd.func34, Tryd.ntmps34
  go_wp2_with fail
  all_goals
    refine (c_numbers _ r _ (by first | exact ht.out | exact RdS.tail0 (by omega)) hs hl).mono ?_
    rintro e w1 ⟨hX, ⟨hno, rfl⟩ | ⟨l, zs, nv, hnu, hsat, rfl, hown⟩⟩
    · replace hno := Lib.hid hno
      go_wp2
      go_ret
      exact RdEnd.err (head_no hno.out) (hX.mono hB)
    · have hx1 := hX.cell hx0
      obtain ⟨A', cap', rfl⟩ := hown.slice
      replace hX := Lib.hid hX
      replace hnu := Lib.hid hnu
      replace hsat := Lib.hid hsat
      replace hown := Lib.hid hown
      rcases hw : (x.toList == [109, 97, 114, 107, 101, 114]) with _ | _
      · go_wp2
        go_ret
        exact RdEnd.err (head_word (word_ne hw)) (hX.out.mono hB)
      · by_cases h4 : zs.length = 4
        rotate_left
        · go_wp2
          go_ret
          exact RdEnd.err (head_len hnu.out (by rw [hsat.out.1]; exact h4)) (hX.out.mono hB)
        · have hr4 : r.length = 4 := by rw [← List.length_map bs, nums_length hnu.out, hsat.out.1, h4]
          try (exfalso; omega)
          all_goals
            obtain ⟨a, b', c, d, rfl⟩ := four_of h4
            clear h4
            obtain ⟨A2, cap2, e2, hcap, hmax, hcs⟩ := hown.out.rdI
            injection e2 with e2 _ e3
            subst e2; subst e3
            obtain ⟨g, o', rfl, c0⟩ := hcs 0 (by simp)
            have c1 : w1.cell? ⟨g, o' + 1, none⟩ = some (.int .i64 b') := by
              obtain ⟨_, _, e, hc⟩ := hcs 1 (by simp)
              cases e; exact hc
            have c2 : w1.cell? ⟨g, o' + 2, none⟩ = some (.int .i64 c) := by
              obtain ⟨_, _, e, hc⟩ := hcs 2 (by simp)
              cases e; exact hc
            have c3 : w1.cell? ⟨g, o' + 3, none⟩ = some (.int .i64 d) := by
              obtain ⟨_, _, e, hc⟩ := hcs 3 (by simp)
              cases e; exact hc
            replace c0 : w1.cell? ⟨g, o', none⟩ = some (.int .i64 a) := by simpa using c0
            clear hcs
            have hm1 := Lib.hid (hp.out.ext hX.out)
            obtain ⟨h0, sv, pv, hb, _, _⟩ := hm1.out
            have f0 := hb.frozen 0
            have f1 := hb.frozen 1
            have f2 := hb.frozen 2
            have f3 := hb.frozen 3
            have hlt := hb.lt
            have q0 : w1.cell? ⟨p, 0, none⟩ = some (.int .i64 m.len) := hb.cell 0
            have q1 : w1.cell? ⟨p, 1, none⟩ = some (.int .i64 m.wid) := hb.cell 1
            have q2 : w1.cell? ⟨p, 2, none⟩ = some (.int .i64 m.rx) := hb.cell 2
            have q3 : w1.cell? ⟨p, 3, none⟩ = some (.int .i64 m.ry) := hb.cell 3
            have q4 : w1.cell? ⟨p, 4, none⟩ = some sv := hb.cell 4
            have q5 : w1.cell? ⟨p, 5, none⟩ = some pv := hb.cell 5
            replace hb := Lib.hid hb
            go_wp2
            go_region
            obtain ⟨w2, hw2⟩ : ∃ w2, w2 = (((((w1.setCell ⟨p, 0, none⟩ (.int .i64 a)).setCell ⟨p, 1, none⟩ (.int .i64 b')).setCell ⟨p, 2, none⟩ (.int .i64 c)).setCell ⟨p, 3, none⟩ (.int .i64 d)).drew) := ⟨_, rfl⟩
            rw [← hw2]
            have hm2 := Lib.hid (show MkAt B p w2 { m with len := a, wid := b', rx := c, ry := d } from hw2 ▸ MkAt.setHead hm1.out a b' c d)
            have hB2 := Lib.hid (show Below B w w2 from hw2 ▸ ((((((hX.out.mono hB).setCell (p := ⟨p, 0, none⟩) h0 _).setCell (p := ⟨p, 1, none⟩) h0 _).setCell (p := ⟨p, 2, none⟩) h0 _).setCell (p := ⟨p, 3, none⟩) h0 _).drew))
            clear hw2 c0 c1 c2 c3 f0 f1 f2 f3 q0 q1 q2 q3 q4 q5 hb hlt
            obtain ⟨_, sv2, pv2, hb, _, _⟩ := hm2.out
            have q0 : w2.cell? ⟨p, 0, none⟩ = some (.int .i64 a) := hb.cell 0
            have q1 : w2.cell? ⟨p, 1, none⟩ = some (.int .i64 b') := hb.cell 1
            have q2 : w2.cell? ⟨p, 2, none⟩ = some (.int .i64 c) := hb.cell 2
            have q3 : w2.cell? ⟨p, 3, none⟩ = some (.int .i64 d) := hb.cell 3
            have q4 : w2.cell? ⟨p, 4, none⟩ = some sv2 := hb.cell 4
            have q5 : w2.cell? ⟨p, 5, none⟩ = some pv2 := hb.cell 5
            replace hb := Lib.hid hb
            go_wp2_with fail
            refine (c_headIn { m with len := a, wid := b', rx := c, ry := d } sv2 pv2 _).mono ?_
            rintro e w3 ⟨rfl, hX3⟩
            obtain ⟨a0, b0, c0, d0, hl4⟩ := four_of (l := l) hsat.out.1
            subst hl4
            have hsd := satL_all hsat.out (lo := 0) (hi := 1048576) (by decide) (by decide)
            replace hX3 := Lib.hid hX3
            rcases hk : headOk a b' c d with _ | _
            · go_wp2
              go_ret
              refine RdEnd.err ?_ (hB2.out.trans (hX3.out.mono (Nat.le_trans hB hB2.out.size)))
              rw [head_four hnu.out (word_eq hw), if_neg]
              rw [headOk_all, ← hsd.1, ← headOk_all, hk]; exact Bool.false_ne_true
            · have hall : [a0, b0, c0, d0].all (inR 0 1048576) = true := by rw [← hsd.1, ← headOk_all, hk]
              have heq := hsd.2 hall
              injection heq with e0 heq
              injection heq with e1 heq
              injection heq with e2 heq
              injection heq with e3 heq
              subst e0; subst e1; subst e2; subst e3
              replace hall := Lib.hid hall
              clear hsd
              go_wp2
              go_ret
              refine RdEnd.ok ?_ (hB2.out.trans (hX3.out.mono (Nat.le_trans hB hB2.out.size))) (hm2.out.ext hX3.out)
              rw [head_four hnu.out (word_eq hw), if_pos hk]

end Go.Proofs.YtmbjlbmfagfneaaDoor
