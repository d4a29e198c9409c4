/- readPlace of the program. -/
import Derived.Test.YtmbjlbmfagfneaaDoorApp
namespace Go.Proofs.YtmbjlbmfagfneaaDoor
open Go Go.RowKit

theorem place_no {m : Mk} {w : B} {r : List B} (h : nums (unflip r) = none) : rdPlace m w r = .error 2 := by rw [rdPlace, h]
theorem place_word {m : Mk} {w : B} {r : List B} (h : w ≠ Tplace) : rdPlace m w r = .error 2 := by
  rw [rdPlace]
  split
  · rw [if_neg h]
  · rfl
theorem place_len {m : Mk} {w : B} {r : List B} {l : List Int} (hn : nums (unflip r) = some l) (hl : l.length ≠ 6) : rdPlace m w r = .error 2 := by
  rw [rdPlace, hn]
  split
  · rename_i h
    have := Option.some.inj h
    subst this
    exact absurd rfl hl
  · rfl
theorem place_six {m : Mk} {w : B} {r : List B} {a b c q x y : Int} (hn : nums (unflip r) = some [a, b, c, q, x, y]) (h : w = Tplace) :
    rdPlace m w r = if plOk ⟨a, b, c, flipped r, q, x, y⟩ then (if 60 ≤ m.places.length then .error 5 else .ok { m with places := m.places ++ [⟨a, b, c, flipped r, q, x, y⟩] }) else .error 3 := by
  rw [rdPlace, hn]
  show (if w = Tplace then _ else _) = _
  rw [if_pos h]
theorem six_of {l : List Int} (h : l.length = 6) : ∃ a b c d e f, l = [a, b, c, d, e, f] := by
  match l, h with
  | [a, b, c, d, e, f], _ => exact ⟨a, b, c, d, e, f, rfl⟩

theorem flip_len {r : List B} (h : r.length ≠ 7) : flipped r = false := by unfold flipped; exact decide_eq_false fun k => h k.1
theorem flip_no3 {a b c d e f g : B} (h : d ≠ Tflip) : flipped [a, b, c, d, e, f, g] = false := by
  unfold flipped; refine decide_eq_false fun k => h ?_
  simpa using k.2
theorem flip_yes {a b c d e f g : B} (h : d = Tflip) : flipped [a, b, c, d, e, f, g] = true := by
  unfold flipped; rw [h]; rfl
theorem unflip_no {r : List B} (h : flipped r = false) : unflip r = r := by unfold unflip; rw [h]; rfl
theorem unflip_yes {a b c d e f g : B} (h : d = Tflip) : unflip [a, b, c, d, e, f, g] = [a, b, c, e, f, g] := by unfold unflip; rw [flip_yes h]; rfl

/-- the place that is being read, in its block -/
def plZ (f : Bool) : Array Value := #[.int .i64 0, .int .i64 0, .int .i64 0, .bool f, .int .i64 0, .int .i64 0, .int .i64 0]

theorem RdS.seven {w : World} {b o cap : Nat} {r0 r1 r2 r3 r4 r5 r6 : ByteArray} (h : RdS w (.slice (some ⟨b, o, none⟩) 7 cap) [r0, r1, r2, r3, r4, r5, r6]) :
    7 ≤ cap ∧ w.cell? ⟨b, o + 3, none⟩ = some (.string r3) ∧ SrcS w (some ⟨b, o, none⟩) [r0, r1, r2] ∧ SrcS w (some ⟨b, o + 4, none⟩) [r4, r5, r6] := by
  obtain ⟨A, cap', e, h1, _, hc⟩ := h
  injection e with e1 _ e3
  subst e1; subst e3
  have hj : ∀ j (h : j < 7), w.cell? ⟨b, o + j, none⟩ = some (.string ([r0, r1, r2, r3, r4, r5, r6][j]'h)) := fun j h => by
    obtain ⟨b', o', e, k⟩ := hc j h
    cases e; exact k
  refine ⟨h1, hj 3 (by decide), fun j h => ⟨b, o, rfl, ?_⟩, fun j h => ⟨b, o + 4, rfl, ?_⟩⟩
  · match j, h with
    | 0, _ => exact hj 0 (by decide)
    | 1, _ => exact hj 1 (by decide)
    | 2, _ => exact hj 2 (by decide)
  · match j, h with
    | 0, _ => exact hj 4 (by decide)
    | 1, _ => exact hj 5 (by decide)
    | 2, _ => exact hj 6 (by decide)

theorem seven_of {r : List ByteArray} (h : r.length = 7) : ∃ r0 r1 r2 r3 r4 r5 r6, r = [r0, r1, r2, r3, r4, r5, r6] := by
  match r, h with
  | [r0, r1, r2, r3, r4, r5, r6], _ => exact ⟨_, _, _, _, _, _, _, rfl⟩

/-- what each way to the numbers has brought about: r' the words that should be numbers, f whether it is flipped -/
structure Way (w wX : World) (R : List B) (v : Value) (f : Bool) (r' : List ByteArray) : Prop where
  ext : Ext w wX
  blk : Blk wX w.heap.size 46 (plZ f)
  rd : RdS wX v r'
  un : unflip R = r'.map bs
  fl : flipped R = f
  sz : ∀ y ∈ r', y.size ≤ 30000
  ln : r'.length ≤ 100000

theorem sat_pl {a b c d e g a0 b0 c0 d0 e0 g0 : Int} {fl : Bool} (h : SatL [a0, b0, c0, d0, e0, g0] [a, b, c, d, e, g]) :
    plOk ⟨a, b, c, fl, d, e, g⟩ = plOk ⟨a0, b0, c0, fl, d0, e0, g0⟩ ∧ (plOk ⟨a, b, c, fl, d, e, g⟩ = true → (⟨a, b, c, fl, d, e, g⟩ : Pl) = ⟨a0, b0, c0, fl, d0, e0, g0⟩) := by
  have k0 := sat_in (lo := 0) (hi := 1048576) (h.2 0 (by simp) (by simp)) (by decide) (by decide)
  have k1 := sat_in (lo := 0) (hi := 1048576) (h.2 1 (by simp) (by simp)) (by decide) (by decide)
  have k2 := sat_in (lo := 0) (hi := 1048576) (h.2 2 (by simp) (by simp)) (by decide) (by decide)
  have k3 := sat_in (lo := 0) (hi := 3) (h.2 3 (by simp) (by simp)) (by decide) (by decide)
  have k4 := sat_in (lo := -1048576) (hi := 1048576) (h.2 4 (by simp) (by simp)) (by decide) (by decide)
  have k5 := sat_in (lo := -1048576) (hi := 1048576) (h.2 5 (by simp) (by simp)) (by decide) (by decide)
  simp only [List.getElem_cons_zero, List.getElem_cons_succ] at k0 k1 k2 k3 k4 k5
  have e0' : plOk ⟨a, b, c, fl, d, e, g⟩ = plOk ⟨a0, b0, c0, fl, d0, e0, g0⟩ := by unfold plOk; simp only [k0.1, k1.1, k2.1, k3.1, k4.1, k5.1]
  refine ⟨e0', fun hk => ?_⟩
  rw [e0'] at hk
  unfold plOk at hk
  simp only [Bool.and_eq_true] at hk
  obtain ⟨⟨⟨⟨⟨h0, h1⟩, h2⟩, h3⟩, h4⟩, h5⟩ := hk
  rw [k0.2 h0, k1.2 h1, k2.2 h2, k3.2 h3, k4.2 h4, k5.2 h5]

theorem rows_ne {B B' E E' sz sz' n n' : Nat} {w : World} {v v' : Value} {xs xs' : List Value} (h : w.ownsRow B E sz v n xs) (h' : w.ownsRow B' E' sz' v' n' xs') (hne : E ≠ E') : v.ownBlock = none ∨ v.ownBlock ≠ v'.ownBlock := by
  rcases h.2 with ⟨rfl, h0⟩ | ⟨g, cap, cur, rfl, _, hh, _⟩
  · exact .inl rfl
  · right
    rcases h'.2 with ⟨rfl, h0⟩ | ⟨g', cap', cur', rfl, _, hh', _⟩
    · simp [Value.ownBlock]
    · intro e
      have e : g = g' := by simpa [Value.ownBlock] using e
      subst e
      rw [hh] at hh'
      simp at hh'
      exact hne hh'.2

theorem MkAt.setPlaces {B p : Nat} {w : World} {m : Mk} {sv pv v : Value} {l : List Pl} (h0 : B ≤ p) (h1 : Blk w p 27 (mkA m sv pv)) (h2 : OwnL .i64 3 B w sv m.sizes) (hv : OwnP B w v l) : MkAt B p (w.setCell ⟨p, 5, none⟩ v) { m with places := l } := by
  refine ⟨h0, sv, v, h1.set_ 5 v, h2.kept (grown_set p 5 v) (.inr (row_ne h2 h1 (by decide))), hv.kept (grown_set p 5 v) (.inr (row_ne hv h1 (by decide)))⟩

theorem cell_far4 {w : World} {g q o : Nat} (h : ¬ g = q) (a b c d : Value) : ((((w.setCell ⟨q, 0, none⟩ a).setCell ⟨q, 1, none⟩ b).setCell ⟨q, 2, none⟩ c).setCell ⟨q, 4, none⟩ d).drew.cell? ⟨g, o, none⟩ = w.cell? ⟨g, o, none⟩ := by
  have hne : ∀ i, (⟨g, o, none⟩ : Addr) ≠ ⟨q, i, none⟩ := fun i e => h (by cases e; rfl)
  show ((((w.setCell ⟨q, 0, none⟩ a).setCell ⟨q, 1, none⟩ b).setCell ⟨q, 2, none⟩ c).setCell ⟨q, 4, none⟩ d).cell? ⟨g, o, none⟩ = _
  rw [World.cell?_setCell_other _ _ _ _ (fun e => hne _ e.symm), World.cell?_setCell_other _ _ _ _ (fun e => hne _ e.symm), World.cell?_setCell_other _ _ _ _ (fun e => hne _ e.symm), World.cell?_setCell_other _ _ _ _ (fun e => hne _ e.symm)]

set_option maxHeartbeats 1000000 in
theorem c_readPlace (B : Nat) (m : Mk) (p : Nat) (v : Value) (x : ByteArray) (r : List ByteArray) (w : World) (hB : B ≤ w.heap.size) (hp : MkAt B p w m) (h : RdS w v (x :: r)) (hs : ∀ y ∈ r, y.size ≤ 30000) (hl : r.length ≤ 100000) :
    Calls Tryd.prog 36 #[.pointer (some ⟨p, 0, none⟩), v] w (RdEnd B p (rdPlace m (bs x) (r.map bs)) w) := by
  obtain ⟨A, cap, rfl⟩ : ∃ A cap, v = .slice A (r.length + 1) cap := by
    obtain ⟨A, cap, e, _⟩ := h; exact ⟨A, cap, e⟩
  obtain ⟨b, o, rfl, hx0, hc1, hc2, ht⟩ := h.tail
  clear h
  unfold maxLen at hc2
  have hbl : b < w.heap.size := World.block_lt_of_cell? w ⟨b, o, none⟩ hx0
  replace hp := Lib.hid hp
  obtain ⟨R, hR⟩ : ∃ R, R = r.map bs := ⟨_, rfl⟩
  rw [← hR]
  by_cases h7 : r.length = 7
  case' pos =>
    obtain ⟨r0, r1, r2, r3, r4, r5, r6, rfl⟩ := seven_of h7
    obtain ⟨hc7, c3, hs1, hs2⟩ := ht.seven
    replace hs1 := Lib.hid hs1
    replace hs2 := Lib.hid hs2
    replace ht := Lib.hid ht
    replace hR := Lib.hid hR
    have hcap1 : ¬ cap = 1 := by omega
    rcases hf : (r3.toList == [102, 108, 105, 112]) with _ | _
    case' false =>
      have hfl := Lib.hid (show flipped R = false by rw [hR.out]; exact flip_no3 (word_ne hf))
      go_enter Tryd.func36, Tryd.ntmps36
      go_wp2_with fail
      obtain ⟨w3, hw3⟩ : ∃ w3, w3 = w.alloc (.cells (plZ false) 46) := ⟨_, rfl⟩
      obtain ⟨r', f, hlen, hway⟩ : ∃ r' f, Hid (List.length r' = 7) ∧ Hid (Way w w3 R (.slice (some ⟨b, o + 1, none⟩) 7 (cap - 1)) f r') :=
        ⟨[r0, r1, r2, r3, r4, r5, r6], false, Lib.hid rfl, Lib.hid (hw3 ▸ ⟨(Ext.refl w).alloc _, Blk.new w 46 _, ht.out.ext ((Ext.refl w).alloc _), (unflip_no hfl.out).trans hR.out, hfl.out, hs, by simp⟩)⟩
      unfold plZ at hw3
      rw [← hw3]
      replace hw3 := Lib.hid hw3
    case' true =>
      go_enter Tryd.func36, Tryd.ntmps36
      go_wp2_with fail
      obtain ⟨wY, hwY⟩ : ∃ wY, wY = w.alloc (.cells (plZ true) 46) := ⟨_, rfl⟩
      have hYB := Lib.hid (show Blk wY w.heap.size 46 (plZ true) from hwY ▸ Blk.new w 46 (plZ true))
      have hYX := Lib.hid (show Ext w wY from hwY ▸ (Ext.refl w).alloc _)
      unfold plZ at hwY
      rw [← hwY]
      replace hwY := Lib.hid hwY
      have hE1 := Lib.hid ((Ext.refl wY).drew.alloc (.cells #[] 9))
      have ho1 := Lib.hid (OwnS.empty wY.drew)
      have h3i : (3 : Int) ≤ ((cap - 1 : Nat) : Int) := by omega
      have h5i : ¬ cap = 5 := by omega
      go_region_law (first
        | (rw [if_pos (by rfl)]; refine wp_appS (.tmp 22) (.tmp 24) rfl wY.heap.size (.slice (some ⟨wY.heap.size, 0, none⟩) 0 0) [] [r0, r1, r2] (some ⟨b, o + 1, none⟩) (cap - 1) rfl ho1.out rfl (hs1.out.ext (hYX.out.trans hE1.out)) (by simp) (by simp [World.drew]) ?_; intro A2 cap2 w2 ho2 hg2; replace ho2 := Lib.hid ho2; have hE2 := Lib.hid (ho1.out.extGrown hE1.out (Nat.le_refl _) hg2); clear hg2)
        | (rw [if_pos (by rfl)]; refine wp_appS (.tmp 25) (.tmp 27) rfl wY.heap.size (.slice A2 3 cap2) [r0, r1, r2] [r4, r5, r6] (some ⟨b, o + 1 + 4, none⟩) (cap - 1 - 4) rfl ho2.out rfl (hs2.out.ext (hYX.out.trans hE2.out)) (by simp) hE2.out.size ?_; intro A3 cap3 w3 ho3 hg3))
      go_wp2_with fail
      obtain ⟨r', f, hway⟩ : ∃ r' f, Hid (Way w w3 R (.slice A3 6 cap3) f r') :=
        have hE3 := ho2.out.extGrown hE2.out (Nat.le_refl _) hg3
        ⟨[r0, r1, r2, r4, r5, r6], true, Lib.hid ⟨hYX.out.trans hE3, hYB.out.ext hE3, ho3.rdS, by rw [hR.out]; exact unflip_yes (word_eq hf), by rw [hR.out]; exact flip_yes (word_eq hf),
          fun y hy => hs y (by simp only [List.mem_cons, List.not_mem_nil, or_false] at hy ⊢; rcases hy with h | h | h | h | h | h <;> simp [h]), by simp⟩⟩
  case' neg =>
    have hfl := Lib.hid (flip_len (r := R) (by rw [hR, List.length_map]; exact h7))
    have hun := Lib.hid ((unflip_no hfl.out).trans hR)
    replace ht := Lib.hid ht
    replace hR := Lib.hid hR
    go_enter Tryd.func36, Tryd.ntmps36
    go_wp2_with fail
    all_goals
      obtain ⟨r', hr'⟩ : ∃ r', r' = r := ⟨_, rfl⟩
      subst hr'
      obtain ⟨w3, hw3⟩ : ∃ w3, w3 = w.alloc (.cells (plZ false) 46) := ⟨_, rfl⟩
      obtain ⟨f, hway⟩ : ∃ f, Hid (Way w w3 R (.slice (some ⟨b, o + 1, none⟩) r'.length (cap - 1)) f r') :=
        ⟨false, Lib.hid (hw3 ▸ ⟨(Ext.refl w).alloc _, Blk.new w 46 _, ht.out.ext ((Ext.refl w).alloc _), hun.out, hfl.out, hs, hl⟩)⟩
      unfold plZ at hw3
      rw [← hw3]
      replace hw3 := Lib.hid hw3
  all_goals
    have hXw := Lib.hid hway.out.ext
    have hx1 := hXw.out.cell hx0
    refine (c_numbers _ r' _ (by first | exact hway.out.rd | exact RdS.tail0 (by omega)) hway.out.sz hway.out.ln).mono ?_
    rintro e w1 ⟨hX1, ⟨hno, rfl⟩ | ⟨l, zs, nv, hnu, hsat, rfl, hown⟩⟩
    · replace hno := Lib.hid hno
      go_wp2
      go_ret
      exact RdEnd.err (place_no (by rw [hway.out.un]; exact hno.out)) ((hXw.out.trans hX1).mono hB)
    · replace hx1 := hX1.cell hx1
      obtain ⟨A', cap', rfl⟩ := hown.slice
      have hB1 := Lib.hid ((hXw.out.trans hX1).mono hB)
      replace hX1 := Lib.hid hX1
      replace hnu := Lib.hid hnu
      replace hsat := Lib.hid hsat
      replace hown := Lib.hid hown
      rcases hw : (x.toList == [112, 108, 97, 99, 101]) with _ | _
      · go_wp2
        go_ret
        exact RdEnd.err (place_word (word_ne hw)) hB1.out
      · by_cases h6 : zs.length = 6
        rotate_left
        · go_wp2
          go_ret
          exact RdEnd.err (place_len (by rw [hway.out.un]; exact hnu.out) (by rw [hsat.out.1]; exact h6)) hB1.out
        · have hr6 : r'.length = 6 := by rw [← List.length_map bs, nums_length hnu.out, hsat.out.1, h6]
          first
            | (exfalso; have := hlen.out; omega)
            | (exfalso; omega)
            | skip
          all_goals
            clear hr6
            obtain ⟨a, b', c, d, e, f', rfl⟩ := six_of h6
            clear h6
            obtain ⟨A2, cap2, e2, hcap, hmax, hcs⟩ := hown.out.rdI
            injection e2 with e2 _ e3
            subst e2; subst e3
            obtain ⟨g, o', rfl, c0⟩ := hcs 0 (by simp)
            have c1 : w1.cell? ⟨g, o' + 1, none⟩ = some (.int .i64 b') := by
              obtain ⟨_, _, e, hc⟩ := hcs 1 (by simp)
              cases e; exact hc
            have c2 : w1.cell? ⟨g, o' + 2, none⟩ = some (.int .i64 c) := by
              obtain ⟨_, _, e, hc⟩ := hcs 2 (by simp)
              cases e; exact hc
            have c3 : w1.cell? ⟨g, o' + 3, none⟩ = some (.int .i64 d) := by
              obtain ⟨_, _, e, hc⟩ := hcs 3 (by simp)
              cases e; exact hc
            have c4 : w1.cell? ⟨g, o' + 4, none⟩ = some (.int .i64 e) := by
              obtain ⟨_, _, e, hc⟩ := hcs 4 (by simp)
              cases e; exact hc
            have c5 : w1.cell? ⟨g, o' + 5, none⟩ = some (.int .i64 f') := by
              obtain ⟨_, _, e, hc⟩ := hcs 5 (by simp)
              cases e; exact hc
            replace c0 : w1.cell? ⟨g, o', none⟩ = some (.int .i64 a) := by simpa using c0
            clear hcs
            have hb := hway.out.blk.ext hX1.out
            have hgq : ¬ g = w.heap.size := by
              have h1 := hown.out.base g rfl
              have h2 := hway.out.blk.lt
              omega
            have hqg : ¬ w.heap.size = g := fun h => hgq h.symm
            have f0 := hb.frozen 0
            have f1 := hb.frozen 1
            have f2 := hb.frozen 2
            have f3 := hb.frozen 4
            have f4 := hb.frozen 5
            have f5 := hb.frozen 6
            have hlt := hb.lt
            have q0 : w1.cell? ⟨w.heap.size, 0, none⟩ = some (.int .i64 0) := hb.cell 0
            have q1 : w1.cell? ⟨w.heap.size, 1, none⟩ = some (.int .i64 0) := hb.cell 1
            have q2 : w1.cell? ⟨w.heap.size, 2, none⟩ = some (.int .i64 0) := hb.cell 2
            have q3 : w1.cell? ⟨w.heap.size, 3, none⟩ = some (.bool f) := hb.cell 3
            have q4 : w1.cell? ⟨w.heap.size, 4, none⟩ = some (.int .i64 0) := hb.cell 4
            have q5 : w1.cell? ⟨w.heap.size, 5, none⟩ = some (.int .i64 0) := hb.cell 5
            have q6 : w1.cell? ⟨w.heap.size, 6, none⟩ = some (.int .i64 0) := hb.cell 6
            replace hb := Lib.hid hb
            have hE1 := hXw.out.trans hX1.out
            have hE2 := ((((hE1.setCell (p := ⟨w.heap.size, 0, none⟩) (Nat.le_refl _) (.int .i64 a)).setCell (p := ⟨w.heap.size, 1, none⟩) (Nat.le_refl _) (.int .i64 b')).setCell (p := ⟨w.heap.size, 2, none⟩) (Nat.le_refl _) (.int .i64 c)).setCell (p := ⟨w.heap.size, 4, none⟩) (Nat.le_refl _) (.int .i64 d)).drew
            replace hE1 := Lib.hid hE1
            have hb2 := (((((hb.out.set_ 0 (.int .i64 a)).set_ 1 (.int .i64 b')).set_ 2 (.int .i64 c)).set_ 4 (.int .i64 d)).drew)
            replace hE2 := Lib.hid hE2
            replace hb2 := Lib.hid hb2
            go_wp2
            go_region
            obtain ⟨w2, hw2⟩ : ∃ w2, w2 = ((((w1.setCell ⟨w.heap.size, 0, none⟩ (.int .i64 a)).setCell ⟨w.heap.size, 1, none⟩ (.int .i64 b')).setCell ⟨w.heap.size, 2, none⟩ (.int .i64 c)).setCell ⟨w.heap.size, 4, none⟩ (.int .i64 d)).drew := ⟨_, rfl⟩
            have c4' : w2.cell? ⟨g, o' + 4, none⟩ = some (.int .i64 e) := by rw [hw2]; exact (cell_far4 hgq _ _ _ _).trans c4
            have c5' : w2.cell? ⟨g, o' + 5, none⟩ = some (.int .i64 f') := by rw [hw2]; exact (cell_far4 hgq _ _ _ _).trans c5
            rw [← hw2] at hE2 hb2 ⊢
            replace hw2 := Lib.hid hw2
            clear c0 c1 c2 c3 c4 c5 f0 f1 f2 f3 f4 f5 q0 q1 q2 q3 q4 q5 q6 hb hlt hx1 hE1
            have f4 := hb2.out.frozen 5
            have f5 := hb2.out.frozen 6
            have hlt := hb2.out.lt
            have q5 : w2.cell? ⟨w.heap.size, 5, none⟩ = some (.int .i64 0) := hb2.out.cell 5
            have q6 : w2.cell? ⟨w.heap.size, 6, none⟩ = some (.int .i64 0) := hb2.out.cell 6
            go_wp2
            go_region
            obtain ⟨w4, hw4⟩ : ∃ w4, w4 = ((w2.setCell ⟨w.heap.size, 5, none⟩ (.int .i64 e)).setCell ⟨w.heap.size, 6, none⟩ (.int .i64 f')).drew := ⟨_, rfl⟩
            have hb4 := Lib.hid (show Blk w4 w.heap.size 46 (plC ⟨a, b', c, f, d, e, f'⟩).toArray from hw4 ▸ ((hb2.out.set_ 5 (.int .i64 e)).set_ 6 (.int .i64 f')).drew)
            have hE4 := Lib.hid (show Ext w w4 from hw4 ▸ ((hE2.out.setCell (p := ⟨w.heap.size, 5, none⟩) (Nat.le_refl _) (.int .i64 e)).setCell (p := ⟨w.heap.size, 6, none⟩) (Nat.le_refl _) (.int .i64 f')).drew)
            rw [← hw4]
            clear hw4 hw2 c4' c5' f4 f5 hlt q5 q6 hb2 hE2
            have q0 : w4.cell? ⟨w.heap.size, 0, none⟩ = some (.int .i64 a) := hb4.out.cell 0
            have q1 : w4.cell? ⟨w.heap.size, 1, none⟩ = some (.int .i64 b') := hb4.out.cell 1
            have q2 : w4.cell? ⟨w.heap.size, 2, none⟩ = some (.int .i64 c) := hb4.out.cell 2
            have q3 : w4.cell? ⟨w.heap.size, 3, none⟩ = some (.bool f) := hb4.out.cell 3
            have q4 : w4.cell? ⟨w.heap.size, 4, none⟩ = some (.int .i64 d) := hb4.out.cell 4
            have q5 : w4.cell? ⟨w.heap.size, 5, none⟩ = some (.int .i64 e) := hb4.out.cell 5
            have q6 : w4.cell? ⟨w.heap.size, 6, none⟩ = some (.int .i64 f') := hb4.out.cell 6
            obtain ⟨a0, b0, c0, d0, e0, f0, hl6⟩ := six_of (l := l) hsat.out.1
            subst hl6
            have hsx := Lib.hid (sat_pl (fl := f) hsat.out)
            go_wp2_with fail
            refine (c_placeIn ⟨a, b', c, f, d, e, f'⟩ _).mono ?_
            rintro e1 w5 ⟨rfl, hX5⟩
            have hE5 := Lib.hid (hE4.out.trans hX5)
            have hB5 := Lib.hid (hE5.out.mono hB)
            have hb5 := Lib.hid (hb4.out.ext hX5)
            replace hX5 := Lib.hid hX5
            clear q0 q1 q2 q3 q4 q5 q6
            rcases hk : plOk ⟨a, b', c, f, d, e, f'⟩ with _ | _
            · go_wp2
              go_ret
              refine RdEnd.err ?_ hB5.out
              rw [place_six (by rw [hway.out.un]; exact hnu.out) (word_eq hw), if_neg]
              rw [hway.out.fl, ← hsx.out.1, hk]; exact Bool.false_ne_true
            · have heq := hsx.out.2 hk
              clear hsx
              have hr := Lib.hid (place_six (m := m) (by rw [hway.out.un]; exact hnu.out) (word_eq hw))
              rw [hway.out.fl, ← heq, hk] at hr
              have hm5 := Lib.hid (hp.out.ext hE5.out)
              obtain ⟨h0, sv, pv, hb, hsv, hpv⟩ := hm5.out
              obtain ⟨Ap, capp, rfl⟩ := hpv.slice
              have q9 : w5.cell? ⟨p, 5, none⟩ = some (.slice Ap m.places.length capp) := hb.cell 5
              have f9 := hb.frozen 5
              have hlt9 := hb.lt
              have hltq := hb5.out.lt
              replace hb := Lib.hid hb
              replace hsv := Lib.hid hsv
              replace hpv := Lib.hid hpv
              replace hk := Lib.hid hk
              clear heq
              by_cases h60 : 60 ≤ m.places.length
              · go_wp2
                go_ret
                refine RdEnd.err ?_ hB5.out
                rw [hr.out, if_pos (by trivial), if_pos h60]
              · have q0 : w5.cell? ⟨w.heap.size, 0, none⟩ = some (.int .i64 a) := hb5.out.cell 0
                have q1 : w5.cell? ⟨w.heap.size, 1, none⟩ = some (.int .i64 b') := hb5.out.cell 1
                have q2 : w5.cell? ⟨w.heap.size, 2, none⟩ = some (.int .i64 c) := hb5.out.cell 2
                have q3 : w5.cell? ⟨w.heap.size, 3, none⟩ = some (.bool f) := hb5.out.cell 3
                have q4 : w5.cell? ⟨w.heap.size, 4, none⟩ = some (.int .i64 d) := hb5.out.cell 4
                have q5 : w5.cell? ⟨w.heap.size, 5, none⟩ = some (.int .i64 e) := hb5.out.cell 5
                have q6 : w5.cell? ⟨w.heap.size, 6, none⟩ = some (.int .i64 f') := hb5.out.cell 6
                have hBh := Lib.hid (Nat.le_trans hB hE5.out.size)
                go_wp2
                go_region_law (first
                  | (rw [if_pos (by rfl)]; refine wp_appP (.tmp 85) (.tmp 87) rfl B (.slice Ap m.places.length capp) m.places ⟨a, b', c, f, d, e, f'⟩ w5.heap.size 1 rfl ((hpv.out.ext (Ext.refl w5).drew).alloc _) rfl (Blk.new w5.drew 46 _) (by omega) (by have := hBh.out; simp [World.drew]; omega) ?_; intro A6 cap6 w6 ho6 hg6; replace ho6 := Lib.hid ho6; have hb6 := ((hb.out.drew.alloc (.cells (plC ⟨a, b', c, f, d, e, f'⟩).toArray 46)).grown hg6 (fun h => row_ne hpv.out hb.out (by decide) h.symm)); have f96 := hb6.frozen 5; have hlt6 := hb6.lt; have q96 : w6.cell? ⟨p, 5, none⟩ = some (.slice Ap m.places.length capp) := hb6.cell 5; replace hg6 := Lib.hid hg6; replace hb6 := Lib.hid hb6))
                all_goals
                  go_wp2
                  go_ret
                  refine RdEnd.ok (m' := { m with places := m.places ++ [⟨a, b', c, f, d, e, f'⟩] }) ?_ ?_ ?_
                  · rw [hr.out, if_pos (by trivial), if_neg h60]
                  · have k1 := hB5.out.drew.alloc (Nat.le_trans hB hE5.out.size) (.cells (plC ⟨a, b', c, f, d, e, f'⟩).toArray 46)
                    have k2 := k1.grown hg6.out (Nat.le_trans hB k1.size) (fun g hgg => hpv.out.base g hgg)
                    exact k2.setCell h0 _
                  · refine MkAt.setPlaces h0 hb6.out ?_ ho6.out
                    exact ((hsv.out.ext (Ext.refl w5).drew).alloc _).kept hg6.out (rows_ne hsv.out hpv.out (by decide))

end Go.Proofs.YtmbjlbmfagfneaaDoor
