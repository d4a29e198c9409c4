/- place of the reference. -/
import Derived.Test.YtmbjlbmfagfneaaDoorRfi
import Derived.Deep.RegionHeld3
import Derived.Deep.DrawnRows
namespace Go.Proofs.YtmbjlbmfagfneaaDoor
open Go Go.RowKit
attribute [local go_sem ↓] Go.wp_at_zero Go.wp_at_succ

/-- what the reference takes for flipped, and the words that it takes for numbers -/
def rflip (r : List B) : Bool := decide (3 < r.length ∧ r[3]? = some Tflip)
def rrest {α : Type} (f : Bool) (r : List α) (j : Nat) : List α := if f = true ∧ 3 < j then r.take 3 ++ (r.take j).drop 4 else r.take j

theorem rrest_skip {α : Type} (r : List α) (h : 3 < r.length) : rrest true r 4 = rrest true r 3 := by
  unfold rrest
  rw [if_pos ⟨rfl, by omega⟩, if_neg (by omega), List.drop_of_length_le (by rw [List.length_take]; omega), List.append_nil]
theorem rrest_next {α : Type} (f : Bool) (r : List α) (j : Nat) (h : j < r.length) (hj : ¬ (j = 3 ∧ f = true)) : rrest f r (j + 1) = rrest f r j ++ [r[j]] := by
  unfold rrest
  by_cases h1 : f = true ∧ 3 < j
  · rw [if_pos h1, if_pos ⟨h1.1, by omega⟩, take_snoc r j h, List.drop_append_of_le_length (by rw [List.length_take]; omega), List.append_assoc]
  · rw [if_neg h1, if_neg (fun k => by
      by_cases h3 : j = 3
      · exact hj ⟨h3, k.1⟩
      · exact h1 ⟨k.1, by omega⟩), take_snoc r j h]
theorem rrest_len {α : Type} (f : Bool) (r : List α) (j : Nat) : (rrest f r j).length ≤ r.length := by
  unfold rrest
  split
  · rw [List.length_append, List.length_drop, List.length_take, List.length_take]; omega
  · rw [List.length_take]; omega
theorem rrest_mem {α : Type} (f : Bool) (r : List α) (j : Nat) : ∀ y ∈ rrest f r j, y ∈ r := by
  intro y hy
  unfold rrest at hy
  split at hy
  · rcases List.mem_append.1 hy with h | h
    · exact List.mem_of_mem_take h
    · exact List.mem_of_mem_take (List.mem_of_mem_drop h)
  · exact List.mem_of_mem_take hy
theorem rrest_map (f : Bool) (r : List ByteArray) (j : Nat) : (rrest f r j).map bs = rrest f (r.map bs) j := by
  unfold rrest
  split
  · rw [List.map_append, List.map_take, List.map_drop, List.map_take]
  · rw [List.map_take]

theorem rrest_no {r : List B} (h : rflip r = false) : rrest false r r.length = unflip r ∧ flipped r = false := by
  have hf : flipped r = false := by
    unfold flipped
    refine decide_eq_false fun k => ?_
    have := of_decide_eq_false h
    exact this ⟨by omega, k.2⟩
  refine ⟨?_, hf⟩
  unfold rrest
  rw [if_neg (by simp), List.take_length, unflip_no hf]
theorem rrest_seven {r : List B} (h : rflip r = true) (h7 : r.length = 7) : rrest true r r.length = unflip r ∧ flipped r = true := by
  have hk := of_decide_eq_true (show decide (3 < r.length ∧ r[3]? = some Tflip) = true from h)
  have hf : flipped r = true := decide_eq_true ⟨h7, hk.2⟩
  refine ⟨?_, hf⟩
  unfold rrest unflip
  rw [if_pos ⟨rfl, by omega⟩, if_pos hf, List.take_length]
theorem nums_flip {r : List B} (h : rflip r = true) : nums r = none := by
  have hk := of_decide_eq_true (show decide (3 < r.length ∧ r[3]? = some Tflip) = true from h)
  have hd : r = r.take 3 ++ r[3] :: r.drop 4 := by
    rw [← List.drop_eq_getElem_cons hk.1, List.take_append_drop]
  have h3 : r[3] = Tflip := by
    have := hk.2
    rw [List.getElem?_eq_getElem hk.1] at this
    exact Option.some.inj this
  rw [hd, h3]
  exact nums_fail (by decide)
theorem rplace_bad {m : Mk} {w : B} {r : List B} (h : rflip r = true) (h7 : r.length ≠ 7) : rdPlace m w r = .error 2 := by
  refine place_no ?_
  rw [unflip_no (flip_len h7)]
  exact nums_flip h
theorem rplace_no {m : Mk} {w : B} {r : List B} (h : nums (rrest (rflip r) r r.length) = none) : rdPlace m w r = .error 2 := by
  cases hf : rflip r with
  | false =>
    rw [hf, (rrest_no hf).1] at h
    exact place_no h
  | true =>
    by_cases h7 : r.length = 7
    · rw [hf, (rrest_seven hf h7).1] at h
      exact place_no h
    · exact rplace_bad hf h7
theorem rplace_len {m : Mk} {w : B} {r : List B} {l : List Int} (h : nums (rrest (rflip r) r r.length) = some l) (hl : l.length ≠ 6) : rdPlace m w r = .error 2 := by
  cases hf : rflip r with
  | false =>
    rw [hf, (rrest_no hf).1] at h
    exact place_len h hl
  | true =>
    by_cases h7 : r.length = 7
    · rw [hf, (rrest_seven hf h7).1] at h
      exact place_len h hl
    · exact rplace_bad hf h7
theorem rplace_six {r : List B} {l : List Int} (h : nums (rrest (rflip r) r r.length) = some l) (hl : l.length = 6) : nums (unflip r) = some l ∧ flipped r = rflip r := by
  cases hf : rflip r with
  | false =>
    rw [hf, (rrest_no hf).1] at h
    exact ⟨h, (rrest_no hf).2⟩
  | true =>
    have hk := of_decide_eq_true (show decide (3 < r.length ∧ r[3]? = some Tflip) = true from hf)
    have h7 : r.length = 7 := by
      have := nums_length h
      rw [hf, hl] at this
      unfold rrest at this
      rw [if_pos ⟨rfl, by omega⟩, List.length_append, List.length_drop, List.length_take, List.length_take] at this
      omega
    rw [hf, (rrest_seven hf h7).1] at h
    exact ⟨h, (rrest_seven hf h7).2⟩

theorem RdS.at {w : World} {x : ByteArray} {r : List ByteArray} {b o cap : Nat} (h : RdS w (.slice (some ⟨b, o, none⟩) (r.length + 1) cap) (x :: r)) (j : Nat) (hj : j < r.length) : w.cell? ⟨b, o + (j + 1), none⟩ = some (.string r[j]) := by
  obtain ⟨A, c, e, _, _, hc⟩ := h
  obtain ⟨b', o', e2, hc⟩ := hc (j + 1) (by simp; omega)
  injection e with e1 _ _
  rw [← e1] at e2
  injection e2 with e2
  injection e2 with e3 e4
  subst e3; subst e4
  simpa using hc

theorem rflip_eq (r : List ByteArray) : rflip (r.map bs) = decide (3 < r.length ∧ ∃ h : 3 < r.length, bs r[3] = Tflip) := by
  unfold rflip
  rw [decide_eq_decide]
  simp only [List.length_map]
  constructor
  · rintro ⟨h1, h2⟩
    refine ⟨h1, h1, ?_⟩
    rw [List.getElem?_eq_getElem (by simpa using h1)] at h2
    simpa using h2
  · rintro ⟨h1, _, h2⟩
    refine ⟨h1, ?_⟩
    rw [List.getElem?_eq_getElem (by simpa using h1)]
    simpa using h2

theorem pl3_no {a b c d e g : Int} {f : Bool} (h : [a, b, c].all (inR 0 1048576) = false) : plOk ⟨a, b, c, f, d, e, g⟩ = false := pl_no1 (p := ⟨a, b, c, f, d, e, g⟩) h
theorem plq_no {a b c d e g : Int} {f : Bool} (h : inR 0 3 d = false) : plOk ⟨a, b, c, f, d, e, g⟩ = false := by unfold plOk; rw [h]; simp
theorem pl2_no {a b c d e g : Int} {f : Bool} (h : [e, g].all (inR (-1048576) 1048576) = false) : plOk ⟨a, b, c, f, d, e, g⟩ = false := by
  simp only [List.all_cons, List.all_nil, Bool.and_true] at h
  unfold plOk
  rw [Bool.and_assoc, h]; simp
theorem pl_all {a b c d e g : Int} {f : Bool} (h1 : [a, b, c].all (inR 0 1048576) = true) (h2 : inR 0 3 d = true) (h3 : [e, g].all (inR (-1048576) 1048576) = true) : plOk ⟨a, b, c, f, d, e, g⟩ = true := by
  simp only [List.all_cons, List.all_nil, Bool.and_true, Bool.and_eq_true] at h1 h3
  unfold plOk
  rw [h1.1, h1.2.1, h1.2.2, h2, h3.1, h3.2]; rfl
theorem blk_of_own {k : IntKind} {E : TypeId} {B : Nat} {w : World} {g o n cap : Nat} {l : List Int} (h : OwnL k E B w (.slice (some ⟨g, o, none⟩) n cap) l) : ∃ cs, Blk w g E cs := by
  rcases h.2 with ⟨h1, _⟩ | ⟨g', cap', cur, e, _, hh, _⟩
  · injection h1 with h1; cases h1
  · injection e with e _ _
    injection e with e
    injection e with e _
    subst e
    exact ⟨cur, hh⟩
theorem keep_grown {w w' : World} {ob : Obj} {row : Option Nat} {g : Nat} (hg : (w.drew.alloc ob).grownBy w' row) (hne : row ≠ some g) (hl : g < w.heap.size) : ∀ o, w'.cell? ⟨g, o, none⟩ = w.cell? ⟨g, o, none⟩ := by
  intro o
  have h1 : w'.heap[g]? = w.heap[g]? := by
    rw [hg.block g (by have : (w.drew.alloc ob).heap.size = w.heap.size + 1 := size_alloc _ _; omega) (fun e => hne e.symm)]
    exact Below.heap_alloc w.drew ob g hl
  unfold World.cell?
  simp only [h1]

theorem grown_after {w w1 w2 : World} {row : Option Nat} (h : Ext w w1) (hg : w1.grownBy w2 row) : w.grownBy w2 row :=
  ⟨hg.os.trans h.below.os, hg.tape.trans h.below.tape, hg.output.trans h.below.output, Nat.le_trans h.size hg.size, fun i hi hne => (hg.block i (Nat.lt_of_lt_of_le hi h.size) hne).trans (h.below.block i hi)⟩
theorem le_alloc_drew {B : Nat} {w : World} {ob : Obj} (h : B ≤ w.heap.size) : B ≤ (w.alloc ob).drew.heap.size := by
  show B ≤ (w.alloc ob).heap.size
  rw [size_alloc]; omega
theorem alloc_keep {w : World} {ob : Obj} {g : Nat} (h : g < w.heap.size) (o : Nat) : (w.alloc ob).drew.cell? ⟨g, o, none⟩ = w.cell? ⟨g, o, none⟩ := by
  have h1 : (w.alloc ob).drew.heap[g]? = w.heap[g]? := Below.heap_alloc w ob g h
  unfold World.cell?
  simp only [h1]

set_option maxHeartbeats 1000000 in
theorem c_rplace (B : Nat) (m : Mk) (sv pv v : Value) (x : ByteArray) (r : List ByteArray) (w : World) (hB : B ≤ w.heap.size) (hsv : OwnL .i64 3 B w sv m.sizes) (hpv : OwnP B w pv m.places) (h : RdS w v (x :: r)) (hs : ∀ y ∈ r, y.size ≤ 30000) (hl : r.length ≤ 100000) :
    Calls Tryd.prog 40 #[mkV m sv pv, v] w (RefEnd B pv.ownBlock (rdPlace m (bs x) (r.map bs)) w) := by
  obtain ⟨A, cap, rfl⟩ : ∃ A cap, v = .slice A (r.length + 1) cap := by
    obtain ⟨A, cap, e, _⟩ := h; exact ⟨A, cap, e⟩
  obtain ⟨b, o, rfl, hx0, hc1, hc2, _⟩ := h.tail
  unfold maxLen at hc2
  obtain ⟨As, cs, rfl⟩ := hsv.slice
  obtain ⟨Ap, cp, rfl⟩ := hpv.slice
  obtain ⟨wA, hwA⟩ : ∃ wA, wA = (w.alloc (.cells (mkA m (.slice As m.sizes.length cs) (.slice Ap m.places.length cp)) 27)).alloc (.cells (mkA Mk.zero (.slice none 0 0) (.slice none 0 0)) 27) := ⟨_, rfl⟩
  have hq := Lib.hid (show Blk wA w.heap.size 27 (mkA m (.slice As m.sizes.length cs) (.slice Ap m.places.length cp)) from hwA ▸ (Blk.new w 27 _).alloc _)
  have hz := Lib.hid (show Blk wA (w.heap.size + 1) 27 (mkA Mk.zero (.slice none 0 0) (.slice none 0 0)) from hwA ▸ Blk.at (by simp))
  have hE := Lib.hid (show Ext w wA from hwA ▸ ((Ext.refl w).alloc _).alloc _)
  have hsA := Lib.hid (hsv.ext hE.out)
  have hpA := Lib.hid (hpv.ext hE.out)
  have hhA := Lib.hid (h.ext hE.out)
  have hbw : b < w.heap.size := World.block_lt_of_cell? w ⟨b, o, none⟩ hx0
  clear hsv hpv
  unfold mkA Mk.zero at hwA
  replace hwA := Lib.hid hwA
  obtain ⟨f, hf⟩ : ∃ f, f = rflip (r.map bs) := ⟨_, rfl⟩
  have hfd := rflip_eq r
  rw [← hf] at hfd
  have h4 : 3 < r.length → w.cell? ⟨b, o + 4, none⟩ = some (.string (r.getD 3 ⟨#[]⟩)) := fun h3 => by
    rw [h.at 3 h3]
    simp [h3]
  clear h
  replace hf := Lib.hid hf
  have hcase : (r.length ≤ 3 ∧ f = false) ∨ (3 < r.length ∧ ((r.getD 3 ⟨#[]⟩).toList == [102, 108, 105, 112]) = f) := by
    by_cases h3 : 3 < r.length
    · right
      refine ⟨h3, ?_⟩
      rw [hfd]
      have e3 : r.getD 3 ⟨#[]⟩ = r[3] := by simp [h3]
      rw [e3]
      rcases hb : (r[3].toList == [102, 108, 105, 112]) with _ | _
      · exact (decide_eq_false fun k => by
          obtain ⟨_, _, k⟩ := k
          exact word_ne hb k).symm
      · exact (decide_eq_true ⟨h3, h3, word_eq hb⟩).symm
    · exact .inl ⟨by omega, by rw [hfd]; exact decide_eq_false fun k => h3 k.1⟩
  clear hfd
  unfold mkV
  go_enter Tryd.func40, Tryd.ntmps40
  rcases hcase with ⟨h3, rfl⟩ | ⟨h3, hfl⟩
  case' inl => clear h4
  case' inr =>
    replace h4 := h4 h3
    obtain ⟨y3, hy3⟩ : ∃ y3, y3 = r.getD 3 ⟨#[]⟩ := ⟨_, rfl⟩
    rw [← hy3] at h4 hfl
    clear hy3
    rcases f with _ | _
  all_goals
    go_wp2
    rw [← hwA.out]
    try clear h4
    go_loopw [7, 8] (fun v i wr => ∃ (j : Nat), j ≤ r.length ∧ i = .int .i64 ((j : Int) + 1) ∧ OwnS wA.heap.size wr v (rrest (rflip (r.map bs)) r j) ∧ Ext wA wr) (fun _ i _ => r.length + 1 - (intOf i).toNat)
    case atStart => exact ⟨0, Nat.zero_le _, rfl, (by simpa [rrest] using OwnS.nil _ _), Ext.refl _⟩
    case round =>
      obtain ⟨j, hj, rfl, hown, hX⟩ := hrel
      obtain ⟨A7, cap7, rfl⟩ := hown.slice
      have hl7 := rrest_len (rflip (r.map bs)) r j
      by_cases hlt : j < r.length
      · have c0 := hX.cell (hhA.out.at j hlt)
        by_cases hskip : j = 3 ∧ rflip (r.map bs) = true
        · have hsk := Lib.hid (show rrest (rflip (r.map bs)) r (j + 1) = rrest (rflip (r.map bs)) r j by
            rw [hskip.1, hskip.2]
            exact rrest_skip r (by omega))
          try (exfalso; have := hf.out; rw [← this] at hskip; exact Bool.false_ne_true hskip.2)
          all_goals
            obtain ⟨rfl, _⟩ := hskip
            replace hown := Lib.hid hown
            replace hX := Lib.hid hX
            go_wp2
            go_roundw
            case rel => exact ⟨3 + 1, by omega, by go_num, (by rw [hsk.out]; exact hown.out), hX.out⟩
            case measure => simp [intOf]; omega
        · have hnx := Lib.hid (rrest_next (rflip (r.map bs)) r j hlt hskip)
          have hj3 : j = 3 → rflip (r.map bs) = false := fun h => by
            cases e : rflip (r.map bs) with
            | false => rfl
            | true => exact absurd ⟨h, e⟩ hskip
          replace hown := Lib.hid hown
          replace hX := Lib.hid hX
          replace hskip := Lib.hid hskip
          obtain ⟨R7, hR7⟩ : ∃ R7, R7 = rrest (rflip (r.map bs)) r j := ⟨_, rfl⟩
          rw [← hR7] at hown hnx hl7 ⊢
          obtain ⟨rj, hrj⟩ : ∃ rj, rj = r[j] := ⟨_, rfl⟩
          rw [← hrj] at c0 hnx
          replace hrj := Lib.hid hrj
          replace hR7 := Lib.hid hR7
          rcases Decidable.em (j = 3) with rfl | hj4
          all_goals
            try (exfalso; omega)
          all_goals
            try (exfalso; have h1 := hj3 rfl; have h2 := hf.out; rw [h1] at h2; exact Bool.false_ne_true h2.symm)
          all_goals
            replace hj3 := Lib.hid hj3
            go_wp2_with (at_builtin; refine wpList_appS rfl (.tmp 32) (.tmp 37) rfl wA.heap.size (.slice A7 R7.length cap7) R7 [rj] (some ⟨wr.heap.size, 0, none⟩) 1 rfl (hown.out.alloc _) rfl (srcS_one wr rj) (by simp; omega) (by have := hX.out.size; simp; omega) ?_; (intro A2 cap2 w2 ho hg))
            go_roundw
            case rel =>
              first
                | exact ⟨j + 1, by omega, by go_num, (by rw [hnx.out]; simpa using ho), (hown.out.alloc _).extGrown (hX.out.alloc _) (Nat.le_refl _) hg⟩
                | exact ⟨3 + 1, by omega, by go_num, (by rw [hnx.out]; simpa using ho), (hown.out.alloc _).extGrown (hX.out.alloc _) (Nat.le_refl _) hg⟩
            case measure => simp [intOf]; omega
      · have hjl : j = r.length := by omega
        subst hjl
        replace hown := Lib.hid hown
        have hXw := Lib.hid (hE.out.trans hX)
        have hxx := hXw.out.cell hx0
        have hXA := Lib.hid hX
        clear hX
        go_wp2_with fail
        obtain ⟨RR, hRR⟩ : ∃ RR, RR = rrest (rflip (r.map bs)) r r.length := ⟨_, rfl⟩
        have hrs : ∀ y ∈ RR, y.size ≤ 30000 := fun y hy => hs y (rrest_mem _ _ _ y (by rw [← hRR]; exact hy))
        have hrl : RR.length ≤ r.length := by rw [hRR]; exact rrest_len _ _ _
        have hrb := Lib.hid (show RR.map bs = rrest (rflip (r.map bs)) (r.map bs) (r.map bs).length by rw [hRR, rrest_map, List.length_map])
        rw [← hRR] at hown ⊢
        clear hRR
        refine (c_rnumbers _ RR _ hown.out.rdS hrs (by omega)).mono ?_
        rintro e w1 hno
        obtain ⟨hX, hno⟩ := hno
        replace hX := hXA.out.trans hX
        have hq1 := hq.out.ext hX
        have hz1 := hz.out.ext hX
        have hx1 := (hE.out.trans hX).cell hx0
        have hB1 := Lib.hid (grown_of_ext (hE.out.trans hX) (Value.ownBlock (.slice Ap m.places.length cp)))
        have hsX := Lib.hid (hsA.out.ext hX)
        have hpX := Lib.hid (hpA.out.ext hX)
        obtain ⟨⟨q0, q1, q2, q3, q4, q5⟩, ⟨f0, f1, f2, f3, f4, f5⟩, hlt1⟩ := hq1.parts6
        obtain ⟨⟨p0, p1, p2, p3, p4, p5⟩, ⟨e0, e1, e2, e3, e4, e5⟩, plt⟩ := hz1.parts6
        replace hq1 := Lib.hid hq1
        replace hz1 := Lib.hid hz1
        replace hX := Lib.hid hX
        have hne1 : ¬ w.heap.size = w.heap.size + 1 := by omega
        clear hxx
        rcases hw : (x.toList == [112, 108, 97, 99, 101]) with _ | _
        · rcases hno with ⟨hno, rfl⟩ | ⟨l, zs, nv, hnu, hsat, rfl, hown1⟩
          case' inr => obtain ⟨A', cap', rfl⟩ := hown1.slice; replace hown1 := Lib.hid hown1; replace hnu := Lib.hid hnu; replace hsat := Lib.hid hsat
          case' inl => replace hno := Lib.hid hno
          all_goals
            go_wp2
            refine ref_end rfl (by first | exact .inl rfl | exact .inr rfl) (m := m) rfl rfl rfl (hz1.out.six (m' := m)) ?_
            exact RefEnd.err (place_word (word_ne hw)) (grown_six hB1.out (by omega) _ _ _ _ _ _)
        · rcases hno with ⟨hno, rfl⟩ | ⟨l, zs, nv, hnu, hsat, rfl, hown1⟩
          · have hno2 := Lib.hid (rplace_no (m := m) (w := bs x) (by rw [← hrb.out]; exact hno))
            clear hno
            go_wp2
            refine ref_end rfl (by first | exact .inl rfl | exact .inr rfl) (m := m) rfl rfl rfl (hz1.out.six (m' := m)) ?_
            exact RefEnd.err hno2.out (grown_six hB1.out (by omega) _ _ _ _ _ _)
          · obtain ⟨A', cap', rfl⟩ := hown1.slice
            have hzl := Lib.hid (show zs.length = RR.length by rw [← hsat.1, ← nums_length hnu, List.length_map])
            rw [hrb.out] at hnu
            replace hown1 := Lib.hid hown1
            replace hnu := Lib.hid hnu
            replace hsat := Lib.hid hsat
            by_cases h6 : zs.length = 6
            rotate_left
            · go_wp2
              refine ref_end rfl (by first | exact .inl rfl | exact .inr rfl) (m := m) rfl rfl rfl (hz1.out.six (m' := m)) ?_
              exact RefEnd.err (rplace_len hnu.out (by rw [hsat.out.1]; exact h6)) (grown_six hB1.out (by omega) _ _ _ _ _ _)
            · have hr6 : 6 ≤ r.length := by have := hzl.out; omega
              try (exfalso; omega)
              all_goals
                obtain ⟨hnu2, hfl2⟩ := rplace_six hnu.out (by rw [hsat.out.1]; exact h6)
                have hff := Lib.hid (hfl2.trans hf.out.symm)
                clear hfl2
                replace hnu2 := Lib.hid hnu2
                obtain ⟨a, b', c, d, e, f', rfl⟩ := six_of h6
                clear h6
                obtain ⟨a0, b0, c0', d0, e0', f0', hl6⟩ := six_of (l := l) hsat.out.1
                subst hl6
                obtain ⟨A2, cap2, t2, hcap, hmax, hcs⟩ := hown1.out.rdI
                injection t2 with t2 _ t3
                subst t2; subst t3
                obtain ⟨g, o', rfl, c0⟩ := hcs 0 (by simp)
                have cx : ∀ j (hj : j < 6), w1.cell? ⟨g, o' + j, none⟩ = some (.int .i64 ([a, b', c, d, e, f'][j]'hj)) := fun j hj => by
                  obtain ⟨_, _, t, hc⟩ := hcs j hj
                  cases t; exact hc
                have c0 : w1.cell? ⟨g, o', none⟩ = some (.int .i64 a) := cx 0 (by decide)
                have c1 : w1.cell? ⟨g, o' + 1, none⟩ = some (.int .i64 b') := cx 1 (by decide)
                have c2 : w1.cell? ⟨g, o' + 2, none⟩ = some (.int .i64 c) := cx 2 (by decide)
                have c3 : w1.cell? ⟨g, o' + 3, none⟩ = some (.int .i64 d) := cx 3 (by decide)
                have c4 : w1.cell? ⟨g, o' + 4, none⟩ = some (.int .i64 e) := cx 4 (by decide)
                have c5 : w1.cell? ⟨g, o' + 5, none⟩ = some (.int .i64 f') := cx 5 (by decide)
                replace hcs := Lib.hid hcs
                have hr3 := Lib.hid (show RdI w1 (.slice (some ⟨g, o', none⟩) 3 cap') [a, b', c] from ⟨_, _, rfl, by simp at hcap ⊢; omega, hmax, fun j hj => ⟨g, o', rfl, by
                  have hj : j < 3 := hj
                  match j, hj with
                  | 0, _ => exact cx 0 (by decide)
                  | 1, _ => exact cx 1 (by decide)
                  | 2, _ => exact cx 2 (by decide)⟩⟩)
                have hr2 := Lib.hid (show RdI w1 (.slice (some ⟨g, o' + 4, none⟩) 2 (cap' - 4)) [e, f'] from ⟨_, _, rfl, by simp at hcap ⊢; omega, by omega, fun j hj => ⟨g, o' + 4, rfl, by
                  have hj : j < 2 := hj
                  match j, hj with
                  | 0, _ => exact cx 4 (by decide)
                  | 1, _ => exact cx 5 (by decide)⟩⟩)
                clear cx
                have hcap6 : 6 ≤ cap' := by simpa using hcap
                have hcapi : (3 : Int) ≤ (cap' : Int) := by omega
                have hcap4 : ¬ cap' = 4 := by omega
                unfold maxLen at hmax
                clear hcap
                go_wp2_with fail
                refine (c_rall _ _ _ [a, b', c] _ hr3.out).mono ?_
                rintro t w2 ⟨rfl, rfl⟩
                rcases h1 : [a, b', c].all (inR 0 1048576) with _ | _
                · go_wp2
                  refine ref_end rfl (by first | exact .inl rfl | exact .inr rfl) (m := m) rfl rfl rfl (hz1.out.six (m' := m)) ?_
                  refine RefEnd.err ?_ (grown_six hB1.out (by omega) _ _ _ _ _ _)
                  rw [place_six hnu2.out (word_eq hw), if_neg]
                  rw [← (sat_pl (fl := flipped (r.map bs)) hsat.out).1, pl3_no h1]; exact Bool.false_ne_true
                replace h1 := Lib.hid h1
                go_wp2_with fail
                refine (c_rwithin _ _ _ _).mono ?_
                rintro t w2 ⟨rfl, rfl⟩
                rcases h2 : inR 0 3 d with _ | _
                · go_wp2
                  refine ref_end rfl (by first | exact .inl rfl | exact .inr rfl) (m := m) rfl rfl rfl (hz1.out.six (m' := m)) ?_
                  refine RefEnd.err ?_ (grown_six hB1.out (by omega) _ _ _ _ _ _)
                  rw [place_six hnu2.out (word_eq hw), if_neg]
                  rw [← (sat_pl (fl := flipped (r.map bs)) hsat.out).1, plq_no h2]; exact Bool.false_ne_true
                replace h2 := Lib.hid h2
                go_wp2_with fail
                refine (c_rall _ _ _ [e, f'] _ hr2.out).mono ?_
                rintro t w2 ⟨rfl, rfl⟩
                rcases h3' : [e, f'].all (inR (-1048576) 1048576) with _ | _
                · go_wp2
                  refine ref_end rfl (by first | exact .inl rfl | exact .inr rfl) (m := m) rfl rfl rfl (hz1.out.six (m' := m)) ?_
                  refine RefEnd.err ?_ (grown_six hB1.out (by omega) _ _ _ _ _ _)
                  rw [place_six hnu2.out (word_eq hw), if_neg]
                  rw [← (sat_pl (fl := flipped (r.map bs)) hsat.out).1, pl2_no h3']; exact Bool.false_ne_true
                have hok := Lib.hid (show plOk ⟨a, b', c, flipped (r.map bs), d, e, f'⟩ = true from pl_all h1.out h2.out h3')
                replace h3' := Lib.hid h3'
                have heq := (sat_pl (fl := flipped (r.map bs)) hsat.out).2 hok.out
                have hrr := Lib.hid (place_six (m := m) hnu2.out (word_eq hw))
                rw [← heq, hok.out] at hrr
                clear heq
                by_cases h60 : 60 ≤ m.places.length
                · go_wp2
                  refine ref_end rfl (by first | exact .inl rfl | exact .inr rfl) (m := m) rfl rfl rfl (hz1.out.six (m' := m)) ?_
                  refine RefEnd.err ?_ (grown_six hB1.out (by omega) _ _ _ _ _ _)
                  rw [hrr.out, if_pos (by trivial), if_pos h60]
                · have hgq : ¬ g = w.heap.size := by
                    have t1 := hown1.out.base g rfl
                    have t2 := hq.out.lt
                    have t3 := hXA.out.size
                    omega
                  have hqg : ¬ w.heap.size = g := fun h => hgq h.symm
                  have hgl : g < w1.heap.size := World.block_lt_of_cell? w1 ⟨g, o', none⟩ c0
                  obtain ⟨csg, hbg⟩ := blk_of_own hown1.out
                  have hgp := Lib.hid (row_ne hpX.out hbg (by decide))
                  replace hbg := Lib.hid hbg
                  have hBw := Lib.hid (Nat.le_trans hB (Nat.le_trans hE.out.size hX.out.size))
                  go_wp2
                  refine wp_region_held_drew (S := fun w' => ∀ o, w'.cell? ⟨g, o, none⟩ = w1.cell? ⟨g, o, none⟩) (by kernel_rfl) (fun o => rfl) (fun hHeld => ?_)
                  refine wpAnyH_take (i := 0) (oi := ⟨some 81, _, _, _, _, _⟩) (v := ?_) rfl (by kernel_rfl) (by kernel_rfl) (by kernel_rfl) (fun _ _ _ h => h) (Or.inl ⟨by rfl, ?_⟩) hHeld ?_
                  rotate_left
                  · intro w hSw; go_simp; try with_reducible rfl
                  try simp only [Act.put, List.setIfInBounds_toArray, List.set_cons_zero, List.set_cons_succ]
                  refine wpAnyH_take (i := 2) (oi := ⟨some 83, _, _, _, _, _⟩) (v := ?_) rfl (by kernel_rfl) (by kernel_rfl) (by kernel_rfl) (fun _ _ _ h => h) (Or.inl ⟨by rfl, ?_⟩) hHeld ?_
                  rotate_left
                  · intro w hSw; go_simp; try with_reducible rfl
                  try simp only [Act.put, List.setIfInBounds_toArray, List.set_cons_zero, List.set_cons_succ]
                  refine wpAnyH_take (i := 3) (oi := ⟨some 84, _, _, _, _, _⟩) (v := ?_) rfl (by kernel_rfl) (by kernel_rfl) (by kernel_rfl) (fun _ _ _ h => h) (Or.inl ⟨by rfl, ?_⟩) hHeld ?_
                  rotate_left
                  · intro w hSw; go_simp; try with_reducible rfl
                  try simp only [Act.put, List.setIfInBounds_toArray, List.set_cons_zero, List.set_cons_succ]
                  refine wpAnyH_take (i := 4) (oi := ⟨some 85, _, _, _, _, _⟩) (v := ?_) rfl (by kernel_rfl) (by kernel_rfl) (by kernel_rfl) (fun _ _ _ h => h) (Or.inl ⟨by rfl, ?_⟩) hHeld ?_
                  rotate_left
                  · intro w hSw; go_simp; try with_reducible rfl
                  try simp only [Act.put, List.setIfInBounds_toArray, List.set_cons_zero, List.set_cons_succ]
                  refine wpAnyH_take (i := 5) (oi := ⟨some 86, _, _, _, _, _⟩) (v := ?_) rfl (by kernel_rfl) (by kernel_rfl) (by kernel_rfl) (fun _ _ _ h => h) (Or.inl ⟨by rfl, ?_⟩) hHeld ?_
                  rotate_left
                  · intro w hSw; go_simp; try with_reducible rfl
                  try simp only [Act.put, List.setIfInBounds_toArray, List.set_cons_zero, List.set_cons_succ]
                  refine wpAnyH_take (i := 6) (oi := ⟨some 87, _, _, _, _, _⟩) (v := ?_) rfl (by kernel_rfl) (by kernel_rfl) (by kernel_rfl) (fun _ _ _ h => h) (Or.inl ⟨by rfl, ?_⟩) hHeld ?_
                  rotate_left
                  · intro w hSw; go_simp; try with_reducible rfl
                  try simp only [Act.put, List.setIfInBounds_toArray, List.set_cons_zero, List.set_cons_succ]
                  refine wpAnyH_take (i := 7) (oi := ⟨some 88, _, _, _, _, _⟩) (v := ?_) rfl (by kernel_rfl) (by kernel_rfl) (by kernel_rfl) (fun _ _ _ h => h) (Or.inl ⟨by rfl, ?_⟩) hHeld ?_
                  rotate_left
                  · intro w hSw; go_simp; try with_reducible rfl
                  try simp only [Act.put, List.setIfInBounds_toArray, List.set_cons_zero, List.set_cons_succ]
                  refine wpAnyH_take (i := 8) (oi := ⟨some 89, _, _, _, _, _⟩) (v := ?_) rfl (by kernel_rfl) (by kernel_rfl) (by kernel_rfl) (fun _ _ _ h => h) (Or.inl ⟨by rfl, ?_⟩) hHeld ?_
                  rotate_left
                  · intro w hSw; go_simp; try with_reducible rfl
                  try simp only [Act.put, List.setIfInBounds_toArray, List.set_cons_zero, List.set_cons_succ]
                  refine wpAnyH_take (i := 9) (oi := ⟨some 90, _, _, _, _, _⟩) (v := ?_) rfl (by kernel_rfl) (by kernel_rfl) (by kernel_rfl) (fun _ _ _ h => h) (Or.inl ⟨by rfl, ?_⟩) hHeld ?_
                  rotate_left
                  · intro w hSw; go_simp; try with_reducible rfl
                  try simp only [Act.put, List.setIfInBounds_toArray, List.set_cons_zero, List.set_cons_succ]
                  refine wpAnyH_take (i := 10) (oi := ⟨some 91, _, _, _, _, _⟩) (v := ?_) rfl (by kernel_rfl) (by kernel_rfl) (by kernel_rfl) (fun _ _ _ h => h) (Or.inl ⟨by rfl, ?_⟩) hHeld ?_
                  rotate_left
                  · intro w hSw; go_simp; try with_reducible rfl
                  try simp only [Act.put, List.setIfInBounds_toArray, List.set_cons_zero, List.set_cons_succ]
                  refine wpAnyH_take (i := 11) (oi := ⟨some 92, _, _, _, _, _⟩) (v := ?_) rfl (by kernel_rfl) (by kernel_rfl) (by kernel_rfl) (fun _ _ _ h => h) (Or.inl ⟨by rfl, ?_⟩) hHeld ?_
                  rotate_left
                  · intro w hSw; go_simp; try with_reducible rfl
                  try simp only [Act.put, List.setIfInBounds_toArray, List.set_cons_zero, List.set_cons_succ]
                  refine wpAnyH_take (i := 12) (oi := ⟨some 93, _, _, _, _, _⟩) (v := ?_) rfl (by kernel_rfl) (by kernel_rfl) (by kernel_rfl) (fun _ _ _ h => h) (Or.inl ⟨by rfl, ?_⟩) hHeld ?_
                  rotate_left
                  · intro w hSw; go_simp; try with_reducible rfl
                  try simp only [Act.put, List.setIfInBounds_toArray, List.set_cons_zero, List.set_cons_succ]
                  refine wpAnyH_take (i := 13) (oi := ⟨some 94, _, _, _, _, _⟩) (v := ?_) rfl (by kernel_rfl) (by kernel_rfl) (by kernel_rfl) (fun _ _ _ h => h) (Or.inl ⟨by rfl, ?_⟩) hHeld ?_
                  rotate_left
                  · intro w hSw; go_simp; try with_reducible rfl
                  try simp only [Act.put, List.setIfInBounds_toArray, List.set_cons_zero, List.set_cons_succ]
                  refine wpAnyH_take (i := 14) (oi := ⟨some 95, _, _, _, _, _⟩) (v := ?_) rfl (by kernel_rfl) (by kernel_rfl) (by kernel_rfl) (fun _ _ _ h => h) (Or.inl ⟨by rfl, ?_⟩) hHeld ?_
                  rotate_left
                  · intro w hSw; go_simp; try with_reducible rfl
                  try simp only [Act.put, List.setIfInBounds_toArray, List.set_cons_zero, List.set_cons_succ]
                  refine wpAnyH_take (i := 15) (oi := ⟨some 96, _, _, _, _, _⟩) (v := ?_) rfl (by kernel_rfl) (by kernel_rfl) (by kernel_rfl) (fun _ _ _ h => h) (Or.inl ⟨by rfl, ?_⟩) hHeld ?_
                  rotate_left
                  · intro w hSw; go_simp; try with_reducible rfl
                  try simp only [Act.put, List.setIfInBounds_toArray, List.set_cons_zero, List.set_cons_succ]
                  refine wpAnyH_take (i := 16) (oi := ⟨some 97, _, _, _, _, _⟩) (v := ?_) rfl (by kernel_rfl) (by kernel_rfl) (by kernel_rfl) (fun _ _ _ h => h) (Or.inl ⟨by rfl, ?_⟩) hHeld ?_
                  rotate_left
                  · intro w hSw; go_simp; try with_reducible rfl
                  try simp only [Act.put, List.setIfInBounds_toArray, List.set_cons_zero, List.set_cons_succ]
                  refine wpAnyH_take (i := 17) (oi := ⟨some 98, _, _, _, _, _⟩) (v := ?_) rfl (by kernel_rfl) (by kernel_rfl) (by kernel_rfl) (fun _ _ _ h => h) (Or.inl ⟨by rfl, ?_⟩) hHeld ?_
                  rotate_left
                  · intro w hSw; go_simp; try with_reducible rfl
                  try simp only [Act.put, List.setIfInBounds_toArray, List.set_cons_zero, List.set_cons_succ]
                  refine wpAnyH_take (i := 18) (oi := ⟨some 99, _, _, _, _, _⟩) (v := ?_) rfl (by kernel_rfl) (by kernel_rfl) (by kernel_rfl) (fun _ _ _ h => h) (Or.inl ⟨by rfl, ?_⟩) hHeld ?_
                  rotate_left
                  · intro w hSw; go_simp; try with_reducible rfl
                  try simp only [Act.put, List.setIfInBounds_toArray, List.set_cons_zero, List.set_cons_succ]
                  refine wpAnyH_take (i := 19) (oi := ⟨some 100, _, _, _, _, _⟩) (v := ?_) rfl (by kernel_rfl) (by kernel_rfl) (by kernel_rfl) (fun _ _ _ h => h) (Or.inl ⟨by rfl, ?_⟩) hHeld ?_
                  rotate_left
                  · intro w hSw; go_simp; try with_reducible rfl
                  try simp only [Act.put, List.setIfInBounds_toArray, List.set_cons_zero, List.set_cons_succ]
                  refine wpAnyH_take (i := 20) (oi := ⟨some 101, _, _, _, _, _⟩) (v := ?_) rfl (by kernel_rfl) (by kernel_rfl) (by kernel_rfl) (fun _ _ _ h => h) (Or.inl ⟨by rfl, ?_⟩) hHeld ?_
                  rotate_left
                  · intro w hSw; go_simp; try with_reducible rfl
                  try simp only [Act.put, List.setIfInBounds_toArray, List.set_cons_zero, List.set_cons_succ]
                  refine wpAnyH_take (i := 21) (oi := ⟨some 102, _, _, _, _, _⟩) (v := ?_) rfl (by kernel_rfl) (by kernel_rfl) (by kernel_rfl) (fun _ _ _ h => h) (Or.inl ⟨by rfl, ?_⟩) hHeld ?_
                  rotate_left
                  · intro w hSw; go_simp; try with_reducible rfl
                  try simp only [Act.put, List.setIfInBounds_toArray, List.set_cons_zero, List.set_cons_succ]
                  refine wpAnyH_take (i := 22) (oi := ⟨some 103, _, _, _, _, _⟩) (v := ?_) rfl (by kernel_rfl) (by kernel_rfl) (by kernel_rfl) (fun _ _ _ h => h) (Or.inl ⟨by rfl, ?_⟩) hHeld ?_
                  rotate_left
                  · intro w hSw; go_simp; try with_reducible rfl
                  try simp only [Act.put, List.setIfInBounds_toArray, List.set_cons_zero, List.set_cons_succ]
                  refine wpAnyH_take (i := 23) (oi := ⟨some 104, _, _, _, _, _⟩) (v := ?_) rfl (by kernel_rfl) (by kernel_rfl) (by kernel_rfl) (fun _ _ _ h => h) (Or.inl ⟨by rfl, ?_⟩) hHeld ?_
                  rotate_left
                  · intro w hSw; go_simp; try with_reducible rfl
                  try simp only [Act.put, List.setIfInBounds_toArray, List.set_cons_zero, List.set_cons_succ]
                  refine wpAnyH_ready (rs := [1, 24]) (by kernel_rfl) (by simp) (AllReadyH.cons (o := ⟨some 82, _, _, _, _, _⟩) rfl (fun K hK => ?_) (AllReadyH.cons (o := ⟨some 105, _, _, _, _, _⟩) rfl (fun K hK => ?_) AllReadyH.nil))
                  rotate_left
                  go_simp
                  refine hK.out _ _ (fun o => alloc_keep hgl o) (fun hHeld => ?_)
                  clear hK K
                  try simp only [Act.put, List.setIfInBounds_toArray, List.set_cons_zero, List.set_cons_succ]
                  refine wpAnyH_ready (rs := [1]) (by kernel_rfl) (by simp) (AllReadyH.cons (o := ⟨some 82, _, _, _, _, _⟩) rfl (fun K hK => ?_) AllReadyH.nil)
                  go_simp
                  refine hK.out _ _ (fun o => alloc_keep hgl o) (fun hHeld => ?_)
                  clear hK K
                  try simp only [Act.put, List.setIfInBounds_toArray, List.set_cons_zero, List.set_cons_succ]
                  rotate_left
                  go_simp
                  refine hK.out _ _ (fun o => rfl) (fun hHeld => ?_)
                  clear hK K
                  try simp only [Act.put, List.setIfInBounds_toArray, List.set_cons_zero, List.set_cons_succ]
                  refine wpAnyH_ready (rs := [24]) (by kernel_rfl) (by simp) (AllReadyH.cons (o := ⟨some 105, _, _, _, _, _⟩) rfl (fun K hK => ?_) AllReadyH.nil)
                  go_simp
                  refine hK.out _ _ (fun o => alloc_keep hgl o) (fun hHeld => ?_)
                  clear hK K
                  try simp only [Act.put, List.setIfInBounds_toArray, List.set_cons_zero, List.set_cons_succ]
                  all_goals
                    refine wpAnyH_ready (rs := [25]) (by kernel_rfl) (by simp) (AllReadyH.cons (o := ⟨some 106, _, _, _, _, _⟩) rfl (fun K hK => ?_) AllReadyH.nil)
                    rw [if_pos (by rfl)]
                    refine wp_appP (.tmp 82) (.tmp 105) rfl B (.slice Ap m.places.length cp) m.places ⟨a, b', c, _, d, e, f'⟩ w1.heap.size 1 rfl ((hpX.out.ext (Ext.refl w1).drew).alloc _) rfl (Blk.new w1.drew 46 _) (by omega) (le_alloc_drew hBw.out) ?_
                    intro A6 cap6 w6 ho6 hg6
                    have hkeep : ∀ o, w6.cell? ⟨g, o, none⟩ = w1.cell? ⟨g, o, none⟩ := keep_grown hg6 hgp.out hgl
                    have hb6 := (hq1.out.drew.alloc _).grown hg6 (fun h => row_ne hpX.out hq1.out (by decide) h.symm)
                    have hz6 := (hz1.out.drew.alloc _).grown hg6 (fun h => row_ne hpX.out hz1.out (by decide) h.symm)
                    have hs6 := Lib.hid (((hsX.out.ext (Ext.refl w1).drew).alloc _).kept hg6 (rows_ne hsX.out hpX.out (by decide)))
                    have hB6 := Lib.hid (grown_after (((hE.out.trans hX.out).alloc _).drew) hg6)
                    refine hK.out _ _ hkeep (fun hHeld => ?_)
                    clear hK K
                    try simp only [Act.put, List.setIfInBounds_toArray, List.set_cons_zero, List.set_cons_succ]
                    replace ho6 := Lib.hid ho6
                    replace hg6 := Lib.hid hg6
                    clear q0 q1 q2 q3 q4 q5 f0 f1 f2 f3 f4 f5 hlt1 p0 p1 p2 p3 p4 p5 e0 e1 e2 e3 e4 e5 plt
                    obtain ⟨⟨q0, q1, q2, q3, q4, q5⟩, ⟨f0, f1, f2, f3, f4, f5⟩, hlt1⟩ := hb6.parts6
                    obtain ⟨⟨p0, p1, p2, p3, p4, p5⟩, ⟨e0, e1, e2, e3, e4, e5⟩, plt⟩ := hz6.parts6
                    replace hb6 := Lib.hid hb6
                    replace hz6 := Lib.hid hz6
                    refine wpAnyH_take (i := 26) (oi := ⟨some 107, _, _, _, _, _⟩) (v := ?_) rfl (by kernel_rfl) (by kernel_rfl) (by kernel_rfl) (fun _ _ _ h => h) (Or.inl ⟨by rfl, ?_⟩) hHeld ?_
                    rotate_left
                    · intro w hSw; go_simp; try with_reducible rfl
                    try simp only [Act.put, List.setIfInBounds_toArray, List.set_cons_zero, List.set_cons_succ]
                    refine wpAnyH_ready (rs := [27]) (by kernel_rfl) (by simp) (AllReadyH.cons (o := ⟨none, _, _, _, _, _⟩) rfl (fun K hK => ?_) AllReadyH.nil)
                    go_simp
                    refine hK.out _ _ (fun o => (World.cell?_setCell_other _ _ _ _ (fun t => hqg (by cases t; rfl))).trans (hkeep o)) (fun hHeld => ?_)
                    clear hK K
                    try simp only [Act.put, List.setIfInBounds_toArray, List.set_cons_zero, List.set_cons_succ]
                    refine wpAnyH_done (by kernel_rfl) ?_ _
                    obtain ⟨w7, hw7⟩ : ∃ w7, w7 = w6.setCell ⟨w.heap.size, 5, none⟩ (.slice A6 (m.places.length + 1) cap6) := ⟨_, rfl⟩
                    have hgr : w6.grownBy w7 (some w.heap.size) := by rw [hw7]; exact grown_set _ 5 _
                    have hq7 := show Blk w7 w.heap.size 27 (mkA m (.slice As m.sizes.length cs) (.slice A6 (m.places.length + 1) cap6)) from hw7 ▸ hb6.out.set_ 5 _
                    have hz7 := hz6.out.grown hgr (by simp)
                    have hs7 := Lib.hid (hs6.out.kept hgr (.inr (row_ne hs6.out hb6.out (by decide))))
                    have hp7 := Lib.hid (ho6.out.kept hgr (.inr (row_ne ho6.out hb6.out (by decide))))
                    have hB7 := Lib.hid (show w.grownBy w7 _ from hw7 ▸ grown_put hB6.out (p := ⟨w.heap.size, 5, none⟩) (Nat.le_refl _) _)
                    rw [← hw7]
                    clear hw7 hgr q0 q1 q2 q3 q4 q5 f0 f1 f2 f3 f4 f5 hlt1 p0 p1 p2 p3 p4 p5 e0 e1 e2 e3 e4 e5 plt c0 c1 c2 c3 c4 c5 hkeep hHeld
                    obtain ⟨⟨q0, q1, q2, q3, q4, q5⟩, _, hlt1⟩ := hq7.parts6
                    obtain ⟨⟨p0, p1, p2, p3, p4, p5⟩, ⟨e0, e1, e2, e3, e4, e5⟩, plt⟩ := hz7.parts6
                    replace hq7 := Lib.hid hq7
                    replace hz7 := Lib.hid hz7
                    go_wp2
                    refine ref_end rfl (by first | exact .inl rfl | exact .inr rfl) (m := { m with places := m.places ++ [⟨a, b', c, flipped (r.map bs), d, e, f'⟩] }) rfl rfl rfl (hz7.out.six (m' := { m with places := m.places ++ [⟨a, b', c, flipped (r.map bs), d, e, f'⟩] })) ?_
                    refine RefEnd.ok (m' := { m with places := m.places ++ [⟨a, b', c, flipped (r.map bs), d, e, f'⟩] }) ?_ (grown_six hB7.out (by omega) _ _ _ _ _ _) ?_ ?_
                    · rw [hrr.out, if_pos (by trivial), if_neg h60]
                    · exact hs7.out.kept (grown6 _ _ _ _ _ _) (.inr (row_ne hs7.out hz7.out (by decide)))
                    · have k7 := hp7.out.kept (grown6 (g := w.heap.size + 1) (.int .i64 m.len) (.int .i64 m.wid) (.int .i64 m.rx) (.int .i64 m.ry) (.slice As m.sizes.length cs) (.slice A6 (m.places.length + 1) cap6)) (.inr (row_ne hp7.out hz7.out (by decide)))
                      rw [← hff.out] at k7
                      exact k7

end Go.Proofs.YtmbjlbmfagfneaaDoor
