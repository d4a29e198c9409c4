/- Contracts of polygon.simple and polygon.Check. -/
import Derived.Test.YtiahfiopigjolaaGreatPlc
namespace Go.Proofs.YtiahfiopigjolaaGreat
open Go Go.RowKit
attribute [local go_sem ↓] Go.wp_at_zero Go.wp_at_succ

theorem tmod_nat (a n : Nat) : Int.tmod (a : Int) (n : Int) = ((a % n : Nat) : Int) := rfl
theorem pass_le {f : Nat → Int} {k n : Nat} (h : Pass f k) (hn : n ≤ k) : upto f n = 0 := upto_all fun j hj => upto_zero h.no j (by omega)
theorem twiceE_yes {p : List Sp} {k : Nat} (hk : k < p.length) (h : p[k] ∈ p.take k) : twiceE p k = 1 := by unfold twiceE; rw [nth_eq p hk, if_pos h]
theorem twiceE_no {p : List Sp} {k : Nat} (hk : k < p.length) (h : ¬ p[k] ∈ p.take k) : twiceE p k = 0 := by unfold twiceE; rw [nth_eq p hk, if_neg h]
theorem simpB_twice {p : List Sp} (h : upto (twiceE p) p.length = 1) : simpB p = false := by unfold simpB; rw [h]; rfl
theorem simpB_side {p : List Sp} (h : upto (sideE p) p.length = 1) : simpB p = false := by unfold simpB; rw [h]; simp
theorem simpB_yes {p : List Sp} (h : upto (twiceE p) p.length = 0) (h2 : upto (sideE p) p.length = 0) : simpB p = true := by unfold simpB; rw [h, h2]; rfl
theorem sideE_fold {p : List Sp} {i m1 m2 : Nat} (hi : i < p.length) (h1 : (i + 1) % p.length = m1) (h2 : (i + 2) % p.length = m2) (l1 : m1 < p.length) (l2 : m2 < p.length) (h : foldB p[i] p[m1] p[m2] = true) : sideE p i = 1 := by
  unfold sideE; rw [h1, h2, nth_eq p hi, nth_eq p l1, nth_eq p l2, if_pos h]
theorem sideE_meets {p : List Sp} {i m1 m2 : Nat} (hi : i < p.length) (h1 : (i + 1) % p.length = m1) (h2 : (i + 2) % p.length = m2) (l1 : m1 < p.length) (l2 : m2 < p.length) (h : foldB p[i] p[m1] p[m2] = false) : sideE p i = upto (meetE p i) (lastK p.length i) := by
  unfold sideE; rw [h1, h2, nth_eq p hi, nth_eq p l1, nth_eq p l2, if_neg (by rw [h]; decide)]
theorem meetE_start (p : List Sp) (i : Nat) : Pass (meetE p i) (i + 2) := ⟨upto_all fun k hk => by unfold meetE; rw [if_pos hk]⟩
theorem meetE_at {p : List Sp} {i j m1 mj : Nat} {b : Bool} (hi : i < p.length) (hj : j < p.length) (hij : i + 2 ≤ j) (h1 : (i + 1) % p.length = m1) (h2 : (j + 1) % p.length = mj) (l1 : m1 < p.length) (l2 : mj < p.length) (h : meetB p[i] p[m1] p[j] p[mj] = b) : meetE p i j = if b then 1 else 0 := by
  unfold meetE; rw [if_neg (by omega), h1, h2, nth_eq p hi, nth_eq p l1, nth_eq p hj, nth_eq p l2, h]
theorem last_in {n i j mj : Nat} (hj : j < n) (h : (j + 1) % n = mj) (hne : ¬ mj = i) : j < lastK n i := by
  unfold lastK
  split
  · rename_i h0
    rcases Nat.lt_or_ge (j + 1) n with h1 | h1
    · omega
    · have : j + 1 = n := by omega
      rw [this, Nat.mod_self] at h
      omega
  · exact hj
theorem last_out {n i j : Nat} (hij : i + 2 ≤ j) (h : ¬ j < n ∨ (j + 1) % n = i) : lastK n i ≤ j := by
  unfold lastK
  rcases h with h | h
  · split <;> omega
  · rcases Nat.lt_or_ge (j + 1) n with h1 | h1
    · rw [Nat.mod_eq_of_lt h1] at h; omega
    · split
      · omega
      · rcases Nat.eq_or_lt_of_le h1 with e | e
        · rw [← e, Nat.mod_self] at h
          omega
        · omega

set_option maxHeartbeats 4000000 in
theorem c_simple (v : Value) (xs : List Sp) (w : World) (h : RdL 2 spP w v xs) (hin : ∀ s ∈ xs, InS s) (h3 : 3 ≤ xs.length) (h40 : xs.length ≤ 40) : Calls Tryz.prog 47 #[v] w fun e w' => e = .returned (.bool (simpB xs)) ∧ Ext w w' := by
  obtain ⟨A, c, rfl⟩ := h.slice
  have hcap : xs.length ≤ c ∧ c ≤ 9223372036854775807 := by
    obtain ⟨A', c', e, h1, h2, _⟩ := h
    injection e with _ _ e2
    unfold maxLen at h2
    omega
  replace h := Lib.hid h
  replace hin := Lib.hid hin
  go_enter Tryz.func47, Tryz.ntmps47
  go_wp2
  go_loopw [14] (fun i wr => ∃ k : Nat, k ≤ xs.length ∧ i = .int .i64 (k : Nat) ∧ Pass (twiceE xs) k ∧ Ext w wr) (fun i _ => xs.length - (intOf i).toNat)
  case atStart => exact ⟨0, Nat.zero_le _, rfl, Pass.zero _, Ext.refl _⟩
  case round =>
    obtain ⟨k, hk, rfl, hup, hX⟩ := hrel
    by_cases hlt : k < xs.length
    · obtain ⟨b, o, rfl, c0, c1⟩ := h.out.sp k hlt
      have hyes := Lib.hid (fun h => simpB_twice (hup.hit hlt (twiceE_yes hlt h) (by decide)))
      have hno := Lib.hid (fun h => hup.next (twiceE_no hlt h))
      have htk := Lib.hid (h.out.take k hk)
      obtain ⟨ys, hys⟩ : ∃ ys, ys = xs.take k := ⟨_, rfl⟩
      obtain ⟨f, hf⟩ : ∃ f, f = xs[k] := ⟨_, rfl⟩
      rw [← hys] at hyes hno htk
      rw [← hf] at c0 c1 hyes hno
      clear hf hys
      have hco := Lib.hid (fun w h => c_containsP (.slice (some ⟨b, o, none⟩) k c) ys f w h)
      unfold spV at hco
      replace c0 := hX.cell c0
      replace c1 := hX.cell c1
      have lb := World.block_lt_of_cell? _ _ c0
      replace hX := Lib.hid hX
      replace hup := Lib.hid hup
      have hki : (k : Int) < xs.length := by omega
      have hk0 : (0 : Int) ≤ (k : Int) := by omega
      have hkc : (k : Int) ≤ (c : Int) := by omega
      go_wp2_with fail
      obtain ⟨wB, hwB⟩ : ∃ wB, wB = wr.alloc (.cells (spC f).toArray 66) := ⟨_, rfl⟩
      have hEB := Lib.hid (show Ext w wB from hwB ▸ hX.out.alloc _)
      have hbB := Lib.hid (show Blk wB wr.heap.size 66 (spC f).toArray from hwB ▸ Blk.new _ _ _)
      unfold spC at hwB
      rw [← hwB]
      clear hwB c0 c1 lb
      obtain ⟨p0, p1, l0⟩ := sp_cells hbB.out
      have hN : wB.heap.size ≤ wB.heap.size := Nat.le_refl _
      go_region_held3 (fun w' => (∀ b o, b < wB.heap.size → w'.cell? ⟨b, o, none⟩ = wB.cell? ⟨b, o, none⟩) ∧ Kp wB.heap.size wB w')
        (first
          | exact (Kp.start hN).drew.both
          | (go_split_ands; exact ((by assumption : Kp _ _ _).call he).both)
          | assumption)
        (first
          | (go_at_call 58; go_split_ands; with_reducible refine (hco.out _ (htk.out.ext spP.stays ((by assumption : Kp _ _ _).ext hEB.out hEB.out.size))).mono ?_; rintro e w1 ⟨rfl, he⟩))
      go_split_ands
      have hX1 := Lib.hid ((by assumption : Kp _ _ w1).ext hEB.out hEB.out.size)
      rcases hb : decide (f ∈ ys) with _ | _
      · have hup2 := Lib.hid (hno.out (of_decide_eq_false hb))
        replace hb := Lib.hid hb
        go_wp2
        go_roundw
        case rel => exact ⟨k + 1, by omega, by go_num, hup2.out, hX1.out⟩
        case measure => simp [intOf]; omega
      · have hh := Lib.hid (hyes.out (of_decide_eq_true hb))
        replace hb := Lib.hid hb
        go_wp2
        go_ret
        exact ⟨ret_bool hh.out.symm, hX1.out⟩
    · have hki : ¬ (k : Int) < xs.length := by omega
      have htw := Lib.hid (hup.done hlt hk)
      have hX0 := Lib.hid hX
      clear hup hX
      go_wp2
      obtain ⟨w0, hw0⟩ : ∃ w0, w0 = wr := ⟨_, rfl⟩
      subst hw0
      go_loopw [27] (fun v wr => ∃ i : Nat, i ≤ xs.length ∧ v = .int .i64 (i : Nat) ∧ Pass (sideE xs) i ∧ Ext w wr) (fun v _ => xs.length - (intOf v).toNat)
      case atStart => exact ⟨0, Nat.zero_le _, rfl, Pass.zero _, hX0.out⟩
      case round =>
        obtain ⟨i, hi, rfl, hup, hX⟩ := hrel
        by_cases hil : i < xs.length
        · obtain ⟨b, o, rfl, c0, c1⟩ := h.out.sp i hil
          obtain ⟨m1, hm1⟩ : ∃ m, (i + 1) % xs.length = m := ⟨_, rfl⟩
          obtain ⟨m2, hm2⟩ : ∃ m, (i + 2) % xs.length = m := ⟨_, rfl⟩
          have l1 : m1 < xs.length := hm1 ▸ Nat.mod_lt _ (by omega)
          have l2 : m2 < xs.length := hm2 ▸ Nat.mod_lt _ (by omega)
          obtain ⟨b', o', e', d0, d1⟩ := h.out.sp m1 l1
          injection e' with e'
          injection e' with e5 e6 _
          subst e5 e6
          obtain ⟨b', o', e', f0, f1⟩ := h.out.sp m2 l2
          injection e' with e'
          injection e' with e5 e6 _
          subst e5 e6
          have t1 : Int.tmod ((i : Int) + 1) (xs.length : Int) = (m1 : Int) := by rw [← hm1]; exact tmod_nat (i + 1) xs.length
          have t2 : Int.tmod ((i : Int) + 2) (xs.length : Int) = (m2 : Int) := by rw [← hm2]; exact tmod_nat (i + 2) xs.length
          have t3 : ((i : Int) + 1) % (xs.length : Int) = (m1 : Int) := by rw [← hm1]; rfl
          have t4 : ((i : Int) + 2) % (xs.length : Int) = (m2 : Int) := by rw [← hm2]; rfl
          have hfold := Lib.hid (fun h => simpB_side (hup.hit hil (sideE_fold hil hm1 hm2 l1 l2 h) (by decide)))
          have hnof := Lib.hid (fun h => sideE_meets hil hm1 hm2 l1 l2 h)
          have hnx := Lib.hid (fun h => hup.next (f := sideE xs) h)
          have hside := Lib.hid (fun (h : sideE xs i = 1) => simpB_side (hup.hit hil h (by decide)))
          have hme := Lib.hid (fun (j mj : Nat) (bb : Bool) hj hij h2 l2 h => meetE_at (p := xs) (j := j) (mj := mj) (b := bb) hil hj hij hm1 h2 l1 l2 h)
          have iA := hin.out _ (List.getElem_mem hil)
          have iB := hin.out _ (List.getElem_mem l1)
          have iC := hin.out _ (List.getElem_mem l2)
          obtain ⟨sa, hsa⟩ : ∃ s, s = xs[i] := ⟨_, rfl⟩
          obtain ⟨sb, hsb⟩ : ∃ s, s = xs[m1] := ⟨_, rfl⟩
          obtain ⟨sc, hsc⟩ : ∃ s, s = xs[m2] := ⟨_, rfl⟩
          rw [← hsa] at c0 c1 hfold hnof hme iA
          rw [← hsb] at d0 d1 hfold hnof hme iB
          rw [← hsc] at f0 f1 hfold hnof iC
          clear hsa hsb hsc
          have hcf := Lib.hid (fun w => c_folded sa sb sc w iA iB iC)
          have hcm := Lib.hid (fun sj sm hj hm w => c_meet sa sb sj sm w iA iB hj hm)
          unfold spV at hcf hcm
          replace iA := Lib.hid iA
          replace iB := Lib.hid iB
          replace iC := Lib.hid iC
          replace c0 := hX.cell c0
          replace c1 := hX.cell c1
          replace d0 := hX.cell d0
          replace d1 := hX.cell d1
          have lb0 := World.block_lt_of_cell? _ _ c0
          replace hX := Lib.hid hX
          replace hup := Lib.hid hup
          replace hm1 := Lib.hid hm1
          replace hm2 := Lib.hid hm2
          have hki : (i : Int) < xs.length := by omega
          have hk1 : (m1 : Int) < xs.length := by omega
          have hk2 : (m2 : Int) < xs.length := by omega
          have hk10 : (0 : Int) ≤ m1 := by omega
          have hk20 : (0 : Int) ≤ m2 := by omega
          have w1 : IntKind.i64.wrap ((i : Int) + 2) = (i : Int) + 2 := IntWalk.i64_in _ (by omega)
          have hn0 : ((xs.length : Int) == 0) = false := beq_eq_false_iff_ne.2 (by omega)
          have hn1 : ¬ (xs.length : Int) = 0 := by omega
          have hn2 : ¬ xs.length = 0 := by omega
          have hn3 : ¬ xs = [] := fun e => by rw [e] at hil; exact absurd hil (by simp)
          go_wp2_with fail
          obtain ⟨wC, hwC⟩ : ∃ wC, wC = (wr.alloc (.cells (spC sa).toArray 66)).alloc (.cells (spC sb).toArray 66) := ⟨_, rfl⟩
          have hEC := Lib.hid (show Ext w wC from hwC ▸ (hX.out.alloc _).alloc _)
          have hbA := Lib.hid (show Blk wC wr.heap.size 66 (spC sa).toArray from hwC ▸ (Blk.new _ _ _).alloc _)
          have hbB := Lib.hid (show Blk wC (wr.heap.size + 1) 66 (spC sb).toArray from hwC ▸ Blk.at (by simp))
          unfold spC at hwC
          rw [← hwC]
          clear hwC c0 c1 d0 d1 lb0
          replace f0 := hEC.out.cell f0
          replace f1 := hEC.out.cell f1
          have lb0 := World.block_lt_of_cell? _ _ f0
          obtain ⟨p0, p1, lA⟩ := sp_cells hbA.out
          obtain ⟨p2, p3, lB⟩ := sp_cells hbB.out
          have hN : wC.heap.size ≤ wC.heap.size := Nat.le_refl _
          go_region_held3 (fun w' => (∀ b o, b < wC.heap.size → w'.cell? ⟨b, o, none⟩ = wC.cell? ⟨b, o, none⟩) ∧ Kp wC.heap.size wC w')
            (first
              | exact (Kp.start hN).drew.both
              | (go_split_ands; exact ((by assumption : Kp _ _ _).call he).both)
              | assumption)
            (first
              | (go_at_call 59; go_split_ands; with_reducible refine (hcf.out _).mono ?_; rintro e w1 ⟨rfl, he⟩))
          go_split_ands
          have hEF := Lib.hid ((by assumption : Kp _ _ w1).ext (Ext.refl wC) (Nat.le_refl _))
          clear f0 f1 lb0 p0 p1 lA p2 p3 lB he
          rcases hfb : foldB sa sb sc with _ | _
          rotate_left
          · have hh := Lib.hid (hfold.out hfb)
            replace hfb := Lib.hid hfb
            go_wp2
            go_ret
            exact ⟨ret_bool hh.out.symm, hEC.out.trans hEF.out⟩
          · have hse := Lib.hid (hnof.out hfb)
            replace hfb := Lib.hid hfb
            go_wp2
            go_loopw [9] (fun v wr2 => ∃ j : Nat, i + 2 ≤ j ∧ j ≤ xs.length + 1 ∧ v = .int .i64 (j : Nat) ∧ Pass (meetE xs i) j ∧ Ext w1 wr2) (fun v _ => xs.length + 1 - (intOf v).toNat)
            case atStart => exact ⟨i + 2, Nat.le_refl _, by omega, by go_num, meetE_start _ _, Ext.refl _⟩
            case round =>
              obtain ⟨j, hij, hj1, rfl, hup3, hX3⟩ := hrel
              have hF3 := Lib.hid ((hEC.out.trans hEF.out).trans hX3)
              have hG3 := Lib.hid (hEF.out.trans hX3)
              by_cases hjl : j < xs.length
              · obtain ⟨mj, hmj⟩ : ∃ m, (j + 1) % xs.length = m := ⟨_, rfl⟩
                have lj : mj < xs.length := hmj ▸ Nat.mod_lt _ (by omega)
                have u1 : Int.tmod ((j : Int) + 1) (xs.length : Int) = (mj : Int) := by rw [← hmj]; exact tmod_nat (j + 1) xs.length
                have u2 : ((j : Int) + 1) % (xs.length : Int) = (mj : Int) := by rw [← hmj]; rfl
                have u3 : IntKind.i64.wrap ((j : Int) + 1) = (j : Int) + 1 := IntWalk.i64_in _ (by omega)
                have hji : (j : Int) < xs.length := by omega
                have hj0 : (0 : Int) ≤ j := by omega
                have hjm : (mj : Int) < xs.length := by omega
                have hjm0 : (0 : Int) ≤ mj := by omega
                by_cases hne : mj = i
                · have hq : ((mj : Int) != (i : Int)) = false := by simp [hne]
                  have hup4 := Lib.hid (hnx.out (hse.out.trans (pass_le hup3 (last_out hij (.inr (hmj.trans hne))))))
                  have hqi : (mj : Int) = (i : Int) := by omega
                  replace hne := Lib.hid hne
                  replace hmj := Lib.hid hmj
                  replace hX3 := Lib.hid hX3
                  go_wp2
                  go_roundw
                  case rel => exact ⟨i + 1, by omega, by go_num, hup4.out, hF3.out⟩
                  case measure => simp [intOf]; omega
                · have hq : ((mj : Int) != (i : Int)) = true := by simp; omega
                  have hqi : ¬ (mj : Int) = (i : Int) := by omega
                  have hjlast := last_in hjl hmj hne
                  obtain ⟨b', o', e', d0, d1⟩ := h.out.sp j hjl
                  injection e' with e'
                  injection e' with e5 e6 _
                  subst e5 e6
                  obtain ⟨b', o', e', f0, f1⟩ := h.out.sp mj lj
                  injection e' with e'
                  injection e' with e5 e6 _
                  subst e5 e6
                  have hm1' := Lib.hid (fun bb h => hme.out j mj bb hjl hij hmj lj h)
                  have iJ := hin.out _ (List.getElem_mem hjl)
                  have iM := hin.out _ (List.getElem_mem lj)
                  obtain ⟨sj, hsj⟩ : ∃ s, s = xs[j] := ⟨_, rfl⟩
                  obtain ⟨sm, hsm⟩ : ∃ s, s = xs[mj] := ⟨_, rfl⟩
                  rw [← hsj] at d0 d1 hm1' iJ
                  rw [← hsm] at f0 f1 hm1' iM
                  clear hsj hsm
                  have hcj := Lib.hid (hcm.out sj sm iJ iM)
                  have hmf := Lib.hid (fun h => hup3.next (hm1'.out false h))
                  have hmt := Lib.hid (fun h => hside.out (hse.out.trans (hup3.hit hjlast (hm1'.out true h) (by decide))))
                  replace d0 := hF3.out.cell d0
                  replace d1 := hF3.out.cell d1
                  replace f0 := hF3.out.cell f0
                  replace f1 := hF3.out.cell f1
                  have lb0 := World.block_lt_of_cell? _ _ d0
                  obtain ⟨p0, p1, lA⟩ := sp_cells (hbA.out.ext hG3.out)
                  obtain ⟨p2, p3, lB⟩ := sp_cells (hbB.out.ext hG3.out)
                  replace iJ := Lib.hid iJ
                  replace iM := Lib.hid iM
                  replace hmj := Lib.hid hmj
                  replace hX3 := Lib.hid hX3
                  replace hup3 := Lib.hid hup3
                  clear hjlast hne
                  have hN : wr.heap.size ≤ wr.heap.size := Nat.le_refl _
                  go_wp2_with fail
                  go_region_held3 (fun w' => (∀ b o, b < wr.heap.size → w'.cell? ⟨b, o, none⟩ = wr.cell? ⟨b, o, none⟩) ∧ Kp wr.heap.size wr w')
                    (first
                      | exact (Kp.start hN).drew.both
                      | (go_split_ands; exact ((by assumption : Kp _ _ _).call he).both)
                      | assumption)
                    (first
                      | (go_at_call 60; go_split_ands; with_reducible refine (hcj.out _).mono ?_; rintro e w2 ⟨rfl, he⟩))
                  go_split_ands
                  have hE2 := Lib.hid ((by assumption : Kp _ _ w2).ext (Ext.refl wr) (Nat.le_refl _))
                  clear d0 d1 f0 f1 lb0 p0 p1 lA p2 p3 lB he
                  rcases hmb : meetB sa sb sj sm with _ | _
                  · have hup4 := Lib.hid (hmf.out hmb)
                    replace hmb := Lib.hid hmb
                    go_wp2
                    go_roundw
                    case rel => exact ⟨j + 1, by omega, by omega, by go_num, hup4.out, hX3.out.trans hE2.out⟩
                    case measure => simp [intOf]; omega
                  · have hh := Lib.hid (hmt.out hmb)
                    replace hmb := Lib.hid hmb
                    go_wp2
                    go_ret
                    exact ⟨ret_bool hh.out.symm, hF3.out.trans hE2.out⟩
              · have hji : ¬ (j : Int) < xs.length := by omega
                have hup4 := Lib.hid (hnx.out (hse.out.trans (pass_le hup3 (last_out hij (.inl hjl)))))
                replace hX3 := Lib.hid hX3
                go_wp2
                go_roundw
                case rel => exact ⟨i + 1, by omega, by go_num, hup4.out, hF3.out⟩
                case measure => simp [intOf]; omega
        · have hki : ¬ (i : Int) < xs.length := by omega
          have hsd := Lib.hid (hup.done hil hi)
          replace hX := Lib.hid hX
          go_wp2
          go_ret
          exact ⟨ret_bool (simpB_yes htw.out hsd.out).symm, hX.out⟩

end Go.Proofs.YtiahfiopigjolaaGreat
