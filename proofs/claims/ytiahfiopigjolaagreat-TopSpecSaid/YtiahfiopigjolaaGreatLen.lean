/- Contracts of polyline.root, segment, Length; polygon.Check. -/
import Derived.Test.YtiahfiopigjolaaGreatSim
import Derived.Test.YtiahfiopigjolaaGreatShelf
namespace Go.Proofs.YtiahfiopigjolaaGreat
open Go Go.RowKit
attribute [local go_sem ↓] Go.wp_at_zero Go.wp_at_succ

theorem newt_step {n x : Int} {k : Nat} : newt n (k + 1) x = if x ≤ (x + n / x) / 2 then x else newt n k ((x + n / x) / 2) := rfl
theorem half_low {n x : Int} (hn : 2 ≤ n) (hx : 1 ≤ x) : 1 ≤ (x + n / x) / 2 := by
  have h1 : 0 ≤ n / x := Int.ediv_nonneg (by omega) (by omega)
  rcases Int.lt_or_le x 2 with h | h
  · have : x = 1 := by omega
    subst this
    rw [Int.ediv_one]
    omega
  · omega
theorem newt_in {n : Int} (hn : 2 ≤ n) : ∀ (k : Nat) (x : Int), 1 ≤ x → 1 ≤ newt n k x ∧ newt n k x ≤ x
  | 0, x, hx => ⟨hx, Int.le_refl _⟩
  | k + 1, x, hx => by
    rw [newt_step]
    split
    · exact ⟨hx, Int.le_refl _⟩
    · rename_i h
      have := newt_in hn k ((x + n / x) / 2) (half_low hn hx)
      omega
theorem start_in {n : Int} (h0 : 0 ≤ n) (h1 : n ≤ 9223372036854775807) : 1 ≤ start n ∧ start n ≤ 4294967296 := by
  have hb : Lib.bitLen n.toNat ≤ 63 := Lib.bitLen_le n.toNat 63 (by omega) (by omega)
  unfold start
  obtain ⟨k, hk⟩ : ∃ k, k = (Lib.bitLen n.toNat + 1) / 2 := ⟨_, rfl⟩
  rw [← hk]
  have hk32 : k ≤ 32 := by omega
  have h2 : 2 ^ k ≤ 2 ^ 32 := Nat.pow_le_pow_right (by omega) hk32
  have h3 : 1 ≤ 2 ^ k := Nat.one_le_two_pow
  have e : (2 : Int) ^ k = ((2 ^ k : Nat) : Int) := by norm_cast
  rw [e]
  omega
theorem root_in {n : Int} (h0 : 0 ≤ n) (h1 : n ≤ 9223372036854775807) : 0 ≤ root n ∧ root n ≤ 4294967296 := by
  unfold root
  split
  · omega
  · obtain ⟨s1, s2⟩ := start_in h0 h1
    have := newt_in (n := n) (by omega) (start n).toNat (start n) s1
    omega
/-- what root's loop keeps: from x on the steps come to root n -/
structure NewtAt (n x : Int) : Prop where
  lo : 1 ≤ x
  hi : x ≤ 4294967296
  eq : ∀ k : Nat, x ≤ k → newt n k x = root n
theorem newt_fuel {n : Int} (hn : 2 ≤ n) : ∀ (k m : Nat) (x : Int), 1 ≤ x → x ≤ k → x ≤ m → newt n k x = newt n m x
  | 0, m, x, hx, hk, _ => by omega
  | k + 1, 0, x, hx, _, hm => by omega
  | k + 1, m + 1, x, hx, hk, hm => by
    rw [newt_step, newt_step]
    split
    · rfl
    · rename_i h
      exact newt_fuel hn k m _ (half_low hn hx) (by omega) (by omega)
theorem NewtAt.start {n : Int} (hn : 2 ≤ n) (h1 : n ≤ 9223372036854775807) : NewtAt n (start n) := by
  obtain ⟨s1, s2⟩ := start_in (n := n) (by omega) h1
  refine ⟨s1, s2, fun k hk => ?_⟩
  unfold root
  rw [if_neg (by omega)]
  exact newt_fuel hn _ _ _ s1 hk (by omega)
theorem NewtAt.stop {n x : Int} (h : NewtAt n x) (hs : x ≤ (x + n / x) / 2) : root n = x := by
  have h1 := h.lo
  have := h.eq (x.toNat - 1 + 1) (by omega)
  rw [newt_step, if_pos hs] at this
  exact this.symm
theorem NewtAt.next {n x : Int} (h : NewtAt n x) (hn : 2 ≤ n) (hs : ¬ x ≤ (x + n / x) / 2) : NewtAt n ((x + n / x) / 2) := by
  have h1 := h.lo
  have h2 := h.hi
  refine ⟨half_low hn h1, by omega, fun k hk => ?_⟩
  have := h.eq (x.toNat + 1) (by omega)
  rw [newt_step, if_neg hs] at this
  rw [← this]
  exact newt_fuel hn _ _ _ (half_low hn h1) hk (by omega)

set_option maxHeartbeats 1000000 in
theorem c_root (n : Int) (w : World) (h0 : 0 ≤ n) (h1 : n ≤ 9000000000000000000) : Calls Tryz.prog 39 #[.int .i64 n] w fun e w' => e = .returned (.int .i64 (root n)) ∧ w' = w := by
  go_enter Tryz.func39, Tryz.ntmps39
  by_cases h2 : n < 2
  · have hr := Lib.hid (show root n = n by unfold root; rw [if_pos h2])
    go_wp2
    go_ret
    exact ⟨ret_int hr.out.symm, rfl⟩
  · have hst := Lib.hid (NewtAt.start (n := n) (by omega) (by omega))
    have hb : Lib.bitLen n.toNat ≤ 63 := Lib.bitLen_le n.toNat 63 (by omega) (by omega)
    have hsd := Lib.hid (show start n = 2 ^ ((Lib.bitLen n.toNat + 1) / 2) from rfl)
    obtain ⟨L, hL⟩ : ∃ L, L = Lib.bitLen n.toNat := ⟨_, rfl⟩
    rw [← hL] at hb hsd
    replace hL := Lib.hid hL
    obtain ⟨s1, s2⟩ := start_in h0 (by omega : n ≤ 9223372036854775807)
    rw [hsd.out] at s1 s2
    go_wp2_with fail
    refine (Tryz.bits_Len n _ (by omega) (by omega)).mono ?_
    rintro e w1 ⟨rfl, rfl⟩
    rw [← hL.out]
    go_wp2
    rw [← hsd.out]
    clear s1 s2 hb
    go_loop [3] (fun v => ∃ x : Int, v = .int .i64 x ∧ NewtAt n x) (fun v => (intOf v).toNat)
    case atStart => exact ⟨_, rfl, hst.out⟩
    case round =>
      obtain ⟨x, rfl, hat⟩ := hrel
      have hlo := hat.lo
      have hhi := hat.hi
      have hq0 : 0 ≤ n / x := Int.ediv_nonneg (by omega) (by omega)
      have hq1 : n / x ≤ n := Int.ediv_le_self _ (by omega)
      have hx0 : (x == 0) = false := beq_eq_false_iff_ne.2 (by omega)
      have hx1 : ¬ x = 0 := by omega
      have hhl := half_low (n := n) (by omega) hlo
      have hstop := Lib.hid (fun h => hat.stop h)
      have hnext := Lib.hid (fun h => hat.next (by omega) h)
      obtain ⟨q, hq⟩ : ∃ q, n / x = q := ⟨_, rfl⟩
      rw [hq] at hq0 hq1 hhl hstop hnext
      by_cases hs : x ≤ (x + q) / 2
      · have hd := Lib.hid (hstop.out hs)
        replace hat := Lib.hid hat
        go_wp2
        go_ret
        exact ⟨ret_int hd.out.symm, rfl⟩
      · have hnx := Lib.hid (hnext.out hs)
        replace hat := Lib.hid hat
        go_wp2
        go_round
        case rel => exact ⟨_, rfl, hnx.out⟩
        case measure => simp [intOf]; omega

theorem sq_in {a : Int} (h0 : -2097152 ≤ a) (h1 : a ≤ 2097152) : 0 ≤ a * a ∧ a * a ≤ 4398046511104 := by
  have h2 := mul_in (a := a) (b := a) h0 h1 h0 h1
  have h3 : 0 ≤ a * a := by
    rcases Int.lt_or_le a 0 with h | h
    · have := Int.mul_nonneg_of_nonpos_of_nonpos (by omega : a ≤ 0) (by omega : a ≤ 0); exact this
    · exact Int.mul_nonneg h h
  omega
theorem seg_in {p q : Sp} (hp : InS p) (hq : InS q) : 0 ≤ seg p q ∧ seg p q ≤ 4294967296 := by
  obtain ⟨a0, a1, a2, a3⟩ := hp
  obtain ⟨b0, b1, b2, b3⟩ := hq
  have m1 := sq_in (a := q.x - p.x) (by omega) (by omega)
  have m2 := sq_in (a := q.y - p.y) (by omega) (by omega)
  unfold seg
  exact root_in (by omega) (by omega)

set_option maxHeartbeats 1000000 in
theorem c_segment (p q : Sp) (w : World) (hp : InS p) (hq : InS q) : Calls Tryz.prog 24 #[spV p, spV q] w fun e w' => e = .returned (.int .i64 (seg p q)) ∧ Ext w w' := by
  obtain ⟨a0, a1, a2, a3⟩ := hp
  obtain ⟨b0, b1, b2, b3⟩ := hq
  have m1 := sq_in (a := q.x - p.x) (by omega) (by omega)
  have m2 := sq_in (a := q.y - p.y) (by omega) (by omega)
  have hd := Lib.hid (show seg p q = root (1000000 * ((q.x - p.x) * (q.x - p.x) + (q.y - p.y) * (q.y - p.y))) from rfl)
  have v1 : IntKind.i64.wrap (q.x - p.x) = q.x - p.x := IntWalk.i64_in _ (by omega)
  have v2 : IntKind.i64.wrap (q.y - p.y) = q.y - p.y := IntWalk.i64_in _ (by omega)
  unfold spV
  go_enter Tryz.func24, Tryz.ntmps24
  go_wp2_with fail
  go_quiet (fail)
  go_wp2_with fail
  refine (c_root _ _ (by omega) (by omega)).mono ?_
  rintro e w1 ⟨rfl, rfl⟩
  go_wp2
  go_ret
  exact ⟨ret_int hd.out.symm, (((Ext.refl w).alloc _).alloc _).drewN _⟩

/-- a polyline without an error -/
structure PlOk (l : List Sp) : Prop where
  two : 2 ≤ l.length
  few : l.length ≤ 40
  ins : ∀ s ∈ l, InS s
theorem plOk_of {l : List Sp} (h : plCheck l = 0) : PlOk l := by
  unfold plCheck at h
  split at h
  · omega
  · split at h
    · omega
    · split at h
      · omega
      · rename_i h1 h2 h3
        refine ⟨by omega, by omega, fun s hs => inS_of ?_⟩
        cases e : outB s with
        | false => rfl
        | true => exact absurd (List.any_eq_true.2 ⟨s, hs, e⟩) h3
theorem sumTo_in {f : Nat → Int} {c : Int} : ∀ {n : Nat}, (∀ k, k < n → 0 ≤ f k ∧ f k ≤ c) → 0 ≤ sumTo f n ∧ sumTo f n ≤ c * n
  | 0, _ => by simp [sumTo]
  | n + 1, h => by
    have h1 := sumTo_in (f := f) (c := c) (n := n) fun k hk => h k (by omega)
    have h2 := h n (by omega)
    have h3 : c * ((n + 1 : Nat) : Int) = c * n + c := by rw [Int.natCast_succ, Int.mul_add, Int.mul_one]
    rw [sumTo, h3]
    omega
theorem segAt_in {l : List Sp} (h : PlOk l) {k : Nat} (hk : k + 1 < l.length) : 0 ≤ segAt l k ∧ segAt l k ≤ 4294967296 := by
  unfold segAt
  rw [nth_eq l (by omega), nth_eq l hk]
  exact seg_in (h.ins _ (List.getElem_mem _)) (h.ins _ (List.getElem_mem _))
theorem partSum_in {l : List Sp} (h : PlOk l) {k : Nat} (hk : k < l.length) : 0 ≤ sumTo (segAt l) k ∧ sumTo (segAt l) k ≤ 171798691840 := by
  have h1 := sumTo_in (f := segAt l) (c := 4294967296) (n := k) fun j hj => segAt_in h (by omega)
  have := h.few
  omega
theorem plLen_in {l : List Sp} (h : PlOk l) : 0 ≤ plLen l ∧ plLen l ≤ 171798691840 := by
  have := h.two
  exact partSum_in h (by omega)

/-- the length that Length returns -/
def lenV (l : List Sp) : Int := if plCheck l = 0 then plLen l else 0
theorem lenV_ok {l : List Sp} (h : plCheck l = 0) : lenV l = plLen l := by unfold lenV; rw [if_pos h]
theorem lenV_bad {l : List Sp} (h : ¬ plCheck l = 0) : lenV l = 0 := by unfold lenV; rw [if_neg h]

set_option maxHeartbeats 2000000 in
theorem c_length (v : Value) (xs : List Sp) (w : World) (h : RdL 2 spP w v xs) : Calls Tryz.prog 9 #[v] w fun e w' => e = .returned (.tuple #[.int .i64 (lenV xs), .int .i64 (plCheck xs)]) ∧ Ext w w' := by
  have hc := Lib.hid (fun w h => c_plCheck v xs w h)
  obtain ⟨A, c, rfl⟩ := h.slice
  replace h := Lib.hid h
  go_enter Tryz.func9, Tryz.ntmps9
  go_wp2_with fail
  refine (hc.out _ h.out).mono ?_
  rintro e w1 ⟨rfl, hx⟩
  have hE := Lib.hid hx
  clear hx
  by_cases h0 : plCheck xs = 0
  rotate_left
  · have hn0 : (plCheck xs != 0) = true := bne_iff_ne.2 h0
    have hif := Lib.hid (lenV_bad h0)
    go_wp2
    go_ret2
    rw [hif.out]
    exact ⟨rfl, hE.out⟩
  · have hok := Lib.hid (plOk_of h0)
    have hif := Lib.hid (lenV_ok h0)
    rw [h0]
    have h2 := hok.out.two
    have h40 := hok.out.few
    obtain ⟨n, hn⟩ : ∃ n, n + 1 = xs.length := ⟨xs.length - 1, by omega⟩
    have hpl := Lib.hid (show plLen xs = sumTo (segAt xs) n by unfold plLen; rw [← hn]; rfl)
    have hnI : IntKind.i64.wrap ((xs.length : Int) - 1) = (n : Int) := (IntWalk.i64_in _ (by omega)).trans (by omega)
    go_wp2
    go_loopw [5, 15] (fun s i wr => ∃ k : Nat, k ≤ n ∧ i = .int .i64 (k : Nat) ∧ s = .int .i64 (sumTo (segAt xs) k) ∧ Ext w wr) (fun _ i _ => n - (intOf i).toNat)
    case atStart => exact ⟨0, Nat.zero_le _, rfl, rfl, hE.out⟩
    case round =>
      obtain ⟨k, hk, rfl, rfl, hX⟩ := hrel
      by_cases hlt : k < n
      · have hkk : k + 1 < xs.length := by omega
        obtain ⟨b, o, rfl, c0, c1⟩ := h.out.sp k (by omega)
        obtain ⟨k1, hk1⟩ : ∃ m, m = k + 1 := ⟨_, rfl⟩
        obtain ⟨b', o', e', d0, d1⟩ := h.out.sp (k + 1) hkk
        injection e' with e'
        injection e' with e5 e6 _
        subst e5 e6
        have hsg := Lib.hid (show segAt xs k = seg (xs[k]'(by omega)) xs[k + 1] by unfold segAt; rw [nth_eq xs (by omega), nth_eq xs hkk])
        have hsum := Lib.hid (show sumTo (segAt xs) (k + 1) = sumTo (segAt xs) k + segAt xs k from rfl)
        have hb1 := partSum_in hok.out (k := k) (by omega)
        have hb2 := segAt_in hok.out hkk
        have iA := hok.out.ins _ (List.getElem_mem (show k < xs.length by omega))
        have iB := hok.out.ins _ (List.getElem_mem hkk)
        obtain ⟨f, hf⟩ : ∃ f, f = xs[k]'(by omega) := ⟨_, rfl⟩
        obtain ⟨s, hs⟩ : ∃ s, s = xs[k + 1] := ⟨_, rfl⟩
        have d0 : w.cell? ⟨b, o + k1 * 2, none⟩ = some (.int .i64 s.x) := by rw [hs]; simpa [hk1] using d0
        have d1 : w.cell? ⟨b, o + k1 * 2 + 1, none⟩ = some (.int .i64 s.y) := by rw [hs]; simpa [hk1] using d1
        rw [← hf] at c0 c1 hsg iA
        rw [← hs] at hsg iB
        clear hf hs
        rw [hsg.out] at hsum hb2
        obtain ⟨S, hS⟩ : ∃ S, S = sumTo (segAt xs) k := ⟨_, rfl⟩
        rw [← hS] at hb1 hsum
        rw [← hS]
        clear hS
        have hcs := Lib.hid (fun w => c_segment f s w iA iB)
        unfold spV at hcs
        replace iA := Lib.hid iA
        replace iB := Lib.hid iB
        replace c0 := hX.cell c0
        replace c1 := hX.cell c1
        replace d0 := hX.cell d0
        replace d1 := hX.cell d1
        have lb := World.block_lt_of_cell? _ _ c0
        replace hX := Lib.hid hX
        have hki : (k : Int) < n := by omega
        have hk0 : (k : Int) < xs.length := by omega
        have hk2 : (k1 : Int) < xs.length := by omega
        have hk3 : (0 : Int) ≤ k1 := by omega
        have hkw : IntKind.i64.wrap ((k : Int) + 1) = (k1 : Int) := (IntWalk.i64_in _ (by omega)).trans (by omega)
        replace hk1 := Lib.hid hk1
        have hsw : IntKind.i64.wrap (S + seg f s) = S + seg f s := IntWalk.i64_in _ (by omega)
        replace hn := Lib.hid hn
        have hN : wr.heap.size ≤ wr.heap.size := Nat.le_refl _
        go_wp2_with fail
        go_region_held3 (fun w' => (∀ b o, b < wr.heap.size → w'.cell? ⟨b, o, none⟩ = wr.cell? ⟨b, o, none⟩) ∧ Kp wr.heap.size wr w')
          (first
            | exact (Kp.start hN).drew.both
            | (go_split_ands; exact ((by assumption : Kp _ _ _).call he).both)
            | assumption)
          (first
            | (go_at_call 24; go_split_ands; with_reducible refine (hcs.out _).mono ?_; rintro e w2 ⟨rfl, he⟩))
        go_split_ands
        have hE2 := Lib.hid ((by assumption : Kp _ _ w2).ext (Ext.refl wr) (Nat.le_refl _))
        clear c0 c1 d0 d1 lb he
        go_wp2
        go_roundw
        case rel => exact ⟨k1, by have := hk1.out; omega, rfl, by rw [hk1.out, hsum.out], hX.out.trans hE2.out⟩
        case measure => have := hk1.out; simp [intOf]; omega
      · have hki : ¬ (k : Int) < n := by omega
        have hkn : k = n := by omega
        replace hX := Lib.hid hX
        go_wp2
        go_ret2
        rw [hif.out, hpl.out, ← hkn]
        exact ⟨rfl, hX.out⟩

end Go.Proofs.YtiahfiopigjolaaGreat
