/- The contract of the reference's Match; SkillMatches walked. -/
import Derived.Test.YthfcllefmeoicaaRTabW
namespace Go.Proofs.Ythfcllefmeoicaa
open Go.RowKit
attribute [local go_sem ↓] Go.wp_at_zero Go.wp_at_succ

/-- what the table's row i holds -/
theorem TabOk.row {cs : List (Nat → Bool)} {n N g k L : Nat} {w : World} (hL : cs.length = L) (h : TabOk cs n w (.slice (some ⟨g, 0, none⟩) (L + 1) (L + 1))) (hN : N = 2 ^ n) (hk : k ≤ L) :
    ∃ c p cap, w.cell? ⟨g, k, none⟩ = some (.slice (some ⟨c, p, none⟩) N cap) ∧ ∀ b, b < N → w.cell? ⟨c, p + b, none⟩ = some (.int .i64 ((tbl cs n k b : Nat) : Int)) := by
  obtain ⟨g', e, ds, h1, h2, h3, h4⟩ := h
  injection e with e1
  injection e1 with e1
  injection e1 with e1
  subst e1
  obtain ⟨A, cap, hA, hR⟩ := h4 k (by omega) (by omega)
  obtain ⟨c, p, rfl, hc⟩ := row_cells hN hR
  refine ⟨c, p, cap, ?_, hc⟩
  rw [h1.cell, hA, hN]
/-- worker j is the one for need k, by the table -/
def pkT (cs : List (Nat → Bool)) (n k S j : Nat) : Bool := !S.testBit j && csAt cs k j && decide (1 + tbl cs n (k + 1) (S ||| 2 ^ j) = tbl cs n k S)
theorem pkT_eq {cs : List (Nat → Bool)} {n k S j : Nat} (hb : (matM cs k).1 = bitC n S) (hk : k ≤ cs.length) (hj : j < n) : picks cs k (matM cs k).1 (matM cs k).2.1 j = pkT cs n k S j := by
  have hl := matM_inv cs k hk
  unfold picks pkT
  rw [hl, hb, ← bitC_or n S j hj]
  have e1 : bitC n S j = S.testBit j := by unfold bitC; simp [hj]
  rw [e1]
  have e2 : decide (1 + (larg (cs.drop (k + 1)) (bitC n (S ||| 2 ^ j)) : Int) = (larg (cs.drop k) (bitC n S) : Int)) = decide (1 + tbl cs n (k + 1) (S ||| 2 ^ j) = tbl cs n k S) := by
    rw [decide_eq_decide]; unfold tbl; omega
  rw [e2]
  cases csAt cs k j <;> cases S.testBit j <;> rfl
theorem pk_some {cs : List (Nat → Bool)} {n k S j : Nat} (hb : (matM cs k).1 = bitC n S) (hk : k < cs.length) (hj : j < n) (hn : n ≤ 12) (hp : pkT cs n k S j = true) (hno : ∀ i, i < j → pkT cs n k S i = false) :
    (matM cs (k + 1)).1 = bitC n (S ||| 2 ^ j) ∧ (matM cs (k + 1)).2.2 = (matM cs k).2.2 ++ [(j : Int)] := by
  have h := matM_some (cs := cs) (k := k) (j := j) (by omega) (fun i hi => by rw [pkT_eq hb (by omega) (by omega)]; exact hno i hi) (by rw [pkT_eq hb (by omega) hj]; exact hp)
  rw [h]
  exact ⟨by rw [hb, bitC_or n S j hj], rfl⟩
theorem pk_none {cs : List (Nat → Bool)} {n k S : Nat} (hb : (matM cs k).1 = bitC n S) (hk : k < cs.length) (hc : ∀ j, csAt cs k j = true → j < n) (hno : ∀ i, i < n → pkT cs n k S i = false) :
    (matM cs (k + 1)).1 = bitC n S ∧ (matM cs (k + 1)).2.2 = (matM cs k).2.2 ++ [-1] := by
  have h := matM_none (cs := cs) (k := k) (fun i _ => by
    by_cases hi : i < n
    · rw [pkT_eq hb (by omega) hi]; exact hno i hi
    · have : csAt cs k i = false := by
        cases e : csAt cs k i with
        | false => rfl
        | true => exact absurd (hc i e) hi
      unfold picks; rw [this]; rfl)
  rw [h]
  exact ⟨hb, rfl⟩
/-- the pick, gone through down to t -/
def PkUp (cs : List (Nat → Bool)) (n k S : Nat) (t x : Int) : Prop :=
  (x = -1 ∧ ∀ j : Nat, t < j → j < n → pkT cs n k S j = false) ∨ ∃ j : Nat, x = j ∧ t < j ∧ j < n ∧ pkT cs n k S j = true ∧ ∀ i : Nat, t < i → i < j → pkT cs n k S i = false
theorem PkUp.no {cs : List (Nat → Bool)} {n k S j : Nat} {x : Int} (h : PkUp cs n k S (j : Int) x) (hp : pkT cs n k S j = false) : PkUp cs n k S ((j : Int) - 1) x := by
  rcases h with ⟨e, h⟩ | ⟨i, e, h1, h2, h3, h4⟩
  · refine .inl ⟨e, fun i hi hn => ?_⟩
    by_cases ei : i = j
    · rw [ei]; exact hp
    · exact h i (by omega) hn
  · refine .inr ⟨i, e, by omega, h2, h3, fun i' h5 h6 => ?_⟩
    by_cases ei : i' = j
    · rw [ei]; exact hp
    · exact h4 i' (by omega) h6
theorem PkUp.yes {cs : List (Nat → Bool)} {n k S j : Nat} (hj : j < n) (hp : pkT cs n k S j = true) : PkUp cs n k S ((j : Int) - 1) (j : Int) :=
  .inr ⟨j, rfl, by omega, hj, hp, fun i h1 h2 => by omega⟩

set_option maxRecDepth 100000 in
set_option maxHeartbeats 2000000 in
theorem c_refMatch (v u : Value) (ws : List Wk) (needs : List Int) (w : World) (h : RdW w v ws) (g : RdI w u needs) :
    Calls Try.prog 18 #[v, u] w fun e w' => ∃ r, e = .returned (.tuple #[r, .int .i64 (askE ws needs)]) ∧ RdI w' r (mtL ws needs) ∧ Ext w w' := by
  by_cases h0 : ¬ askE ws needs = 0
  · have hE : (askE ws needs != 0) = true := by simp [h0]
    have hh := Lib.hid h
    have gg := Lib.hid g
    have h0 := Lib.hid h0
    go_enter Try.func18, Try.ntmps18
    go_wp2_with fail
    refine (c_asked _ _ ws needs _ hh.out gg.out).mono ?_
    rintro e wa ⟨rfl, hea⟩
    have hea := Lib.hid hea
    go_wp2_with fail
    go_ret2
    exact ⟨_, rfl, by unfold mtL; rw [if_neg h0.out]; exact RdI.nil _, hea.out⟩
  replace h0 := Decidable.of_not_not h0
  obtain ⟨_, h12, h16, _⟩ := askE_ok h0
  have hh := Lib.hid h
  have gg := Lib.hid g
  obtain ⟨A, cap, rfl, hcap, hmax, hc⟩ := h
  obtain ⟨B, capB, rfl, hcapB, hmaxB, hd⟩ := g
  unfold maxLen at hmax hmaxB
  replace hc := Lib.hid hc
  replace hd := Lib.hid hd
  have hE : (askE ws needs != 0) = false := by simp [h0]
  have hmt := Lib.hid (show mtL ws needs = (matM (setsW ws needs) (setsW ws needs).length).2.2 by unfold mtL matL; rw [if_pos h0])
  rw [h0] at hE ⊢
  have hlen := Lib.hid (setsW_len ws needs)
  have hable := Lib.hid (show ∀ k (hk : k < needs.length) j (hj : j < ws.length), csAt (setsW ws needs) k j = memI needs[k] ws[j].mach from fun k hk j hj => able_at hk hj)
  have hin := Lib.hid (show ∀ i j, csAt (setsW ws needs) i j = true → j < ws.length from fun i j hx => by obtain ⟨_, hi, _⟩ := able_of hx; exact hi)
  obtain ⟨N, hN, hN12, _⟩ := pow_wrap ws.length h12
  replace hN := Lib.hid hN
  have hask := Lib.hid h0
  clear h0
  go_enter Try.func18, Try.ntmps18
  go_wp2_with fail
  refine (c_asked _ _ ws needs _ hh.out gg.out).mono ?_
  rintro e wa ⟨rfl, hea⟩
  rw [hask.out]
  replace hea := Lib.hid hea
  go_wp2_with fail
  refine (c_table _ _ ws needs _ (hh.out.ext hea.out) (gg.out.ext hea.out) h12 h16).mono ?_
  rintro e w1 ⟨tv, rfl, htab, he1⟩
  have hX1 := Lib.hid (hea.out.trans he1)
  clear he1 hea
  generalize setsW ws needs = cs at *
  obtain ⟨gt, htv⟩ : ∃ gt, tv = .slice (some ⟨gt, 0, none⟩) (needs.length + 1) (needs.length + 1) := by
    obtain ⟨gt, e, _⟩ := htab; rw [hlen.out] at e; exact ⟨gt, e⟩
  subst htv
  replace htab := Lib.hid htab
  go_wp2_with fail
  go_loopw [8, 9, 10, 11, 12] (fun x s i u11 u12 wr => ∃ k S : Nat, k ≤ needs.length ∧ S < N ∧ i = .int .i64 k ∧ s = .int .i64 S ∧ Hid ((matM cs k).1 = bitC ws.length S) ∧ OwnL .i64 3 w1.heap.size wr x (matM cs k).2.2 ∧ Ext w1 wr) (fun _ _ i _ _ _ => needs.length - (intOf i).toNat)
  case atStart =>
    refine ⟨0, 0, by omega, by have := hN.out; have := Nat.two_pow_pos ws.length; omega, rfl, rfl, Lib.hid ?_, OwnL.nil _ _ _ _, Ext.refl _⟩
    funext x
    unfold bitC
    simp [matM]
  case round =>
    obtain ⟨k, S, hk, hS, rfl, rfl, HM, hown, hext⟩ := hrel
    obtain ⟨Ao, capo, rfl⟩ := hown.slice
    replace hown := Lib.hid hown
    replace hext := Lib.hid hext
    have hml := matM_len cs k
    rw [hml] at hown ⊢
    replace hml := Lib.hid hml
    by_cases hlt : k < needs.length
    · obtain ⟨wo, rfl⟩ : ∃ wo : World, wo = wr := ⟨_, rfl⟩
      obtain ⟨c1, p1, cap1, hr1, hrow1⟩ := TabOk.row hlen.out htab.out hN.out (show k + 1 ≤ needs.length by omega)
      obtain ⟨c0, p0, cap0, hr0, hrow0⟩ := TabOk.row hlen.out htab.out hN.out (show k ≤ needs.length by omega)
      have hrS := Lib.hid (hrow0 S hS)
      replace hr1 := Lib.hid hr1
      replace hr0 := Lib.hid hr0
      replace hrow1 := Lib.hid hrow1
      clear hrow0
      go_wp2_with fail
      go_loopw [11, 12] (fun x y wr => ∃ t px : Int, -1 ≤ t ∧ t < ws.length ∧ y = .int .i64 t ∧ x = .int .i64 px ∧ Hid (PkUp cs ws.length k S t px) ∧ Ext wo wr) (fun _ y _ => (intOf y + 1).toNat)
      case atStart => exact ⟨(ws.length : Int) - 1, -1, by omega, by omega, rfl, rfl, Lib.hid (.inl ⟨rfl, fun j h1 h2 => by omega⟩), Ext.refl _⟩
      case round =>
        obtain ⟨t, px, ht0, ht1, rfl, rfl, HP, hX⟩ := hrel
        replace hX := Lib.hid hX
        by_cases hpos : 0 ≤ t
        · obtain ⟨j, rfl⟩ : ∃ j : Nat, t = (j : Int) := ⟨t.toNat, by omega⟩
          have hjl : j < ws.length := by omega
          clear ht0 ht1 hpos
          obtain ⟨b2, o2, mv, rfl, hwn, hwm, hwr, _⟩ := hc.out j hjl
          obtain ⟨b3, o3, rfl, hcn⟩ := hd.out k hlt
          have hXw := Lib.hid ((hX1.out.trans hext.out).trans hX.out)
          have hXt := Lib.hid (hext.out.trans hX.out)
          replace hwn := hXw.out.cell hwn
          replace hwm := hXw.out.cell hwm
          replace hcn := hXw.out.cell hcn
          have hb2 : b2 < wr.heap.size := World.block_lt_of_cell? wr _ hwn
          have hb3 : b3 < wr.heap.size := World.block_lt_of_cell? wr _ hcn
          obtain ⟨MA, mcap, rfl⟩ := hwr.nat
          have hrr := Lib.hid (hwr.ext hXw.out)
          have hNN : wr.heap.size ≤ wr.heap.size := Nat.le_refl _
          have k0 : (0 : Int) ≤ (j : Int) := by omega
          have k1 : (j : Int) < (ws.length : Int) := by omega
          have k2 : (0 : Int) ≤ (k : Int) := by omega
          have k3 : (k : Int) < (needs.length : Int) := by omega
          have hcs := Lib.hid (hable.out k hlt j hjl)
          clear hwr
          cases hbit : S.testBit j with
          | true =>
            have hq := Lib.hid (show ∀ n, Calls Try.prog 35 #[.int .i64 S, .int .i64 j] (wr.drewN n) (fun e w' => e = .returned (.bool true) ∧ wr.drewN n = w') from fun n => by
              have hcl := c_has S j (wr.drewN n) (by omega) (by omega)
              rw [hbit] at hcl
              exact hcl)
            have hno := Lib.hid (show pkT cs ws.length k S j = false by unfold pkT; rw [hbit]; rfl)
            clear hbit
            go_wp2_with fail
            go_quiet ((go_at_call 35; exact quietS (hq.out _)))
            go_wp2_with fail
            go_roundw
            case rel => exact ⟨(j : Int) - 1, px, by omega, by omega, rfl, rfl, Lib.hid (HP.out.no hno.out), hX.out.drewN _⟩
            case measure => simp [intOf]
          | false =>
            have hhas := Lib.hid (show ∀ W, Calls Try.prog 35 #[.int .i64 S, .int .i64 j] W (fun e w' => e = .returned (.bool false) ∧ W = w') from fun W => by
              have hcl := c_has S j W (by omega) (by omega)
              rw [hbit] at hcl
              exact hcl)
            cases hcan : memI needs[k] ws[j].mach with
            | false =>
              have hno := Lib.hid (show pkT cs ws.length k S j = false by unfold pkT; rw [hbit, hcs.out, hcan]; rfl)
              have hcanc := Lib.hid (show ∀ W, RdI W (.slice MA ws[j].mach.length mcap) ws[j].mach → Calls Try.prog 14 #[.agg #[.string ws[j].name, .slice MA ws[j].mach.length mcap], .int .i64 needs[k]] W fun e w' => e = .returned (.bool false) ∧ Ext W w' from fun W h => by
                have := c_refcan ws[j].name (.slice MA ws[j].mach.length mcap) needs[k] ws[j].mach W h
                rwa [hcan] at this)
              clear hbit hcan
              go_wp2_with fail
              refine wp_region_held_drew (S := fun w' => (∀ b o, b < wr.heap.size → w'.cell? ⟨b, o, none⟩ = wr.cell? ⟨b, o, none⟩) ∧ Kp wr.heap.size wr w') (by kernel_rfl) ((Kp.start hNN).drew.both) (fun hHeld => ?_)
              refine wpAnyH_take (i := 0) (oi := ⟨some 35, _, _, _, _, _⟩) (v := ?_) rfl (by kernel_rfl) (by kernel_rfl) (by kernel_rfl) (fun _ _ _ h => h) (Or.inl ⟨by rfl, ?_⟩) hHeld ?_
              rotate_left
              · intro w hSw; go_simp; try with_reducible rfl
              try simp only [Act.put, List.setIfInBounds_toArray, List.set_cons_zero, List.set_cons_succ]
              refine wpAnyH_take (i := 1) (oi := ⟨some 36, _, _, _, _, _⟩) (v := ?_) rfl (by kernel_rfl) (by kernel_rfl) (by kernel_rfl) (fun _ _ _ h => h) (Or.inl ⟨by rfl, ?_⟩) hHeld ?_
              rotate_left
              · intro w hSw; go_simp; try with_reducible rfl
              try simp only [Act.put, List.setIfInBounds_toArray, List.set_cons_zero, List.set_cons_succ]
              refine wpAnyH_ready (rs := [2]) (by kernel_rfl) (by simp) (AllReadyH.cons (o := ⟨some 37, _, _, _, _, _⟩) rfl (fun K hK => ?_) AllReadyH.nil)
              go_simp
              refine (hhas.out _).mono ?_
              rintro e w3 ⟨rfl, rfl⟩
              go_wp2_with fail
              refine hK.out _ _ (hHeld) (fun hHeld => ?_)
              clear hK K
              try simp only [Act.put, List.setIfInBounds_toArray, List.set_cons_zero, List.set_cons_succ]
              refine wpAnyH_take (i := 3) (oi := ⟨some 38, _, _, _, _, _⟩) (v := .bool true) rfl (by kernel_rfl) (by kernel_rfl) (by kernel_rfl) (fun _ _ _ h => h) (Or.inl ⟨by rfl, by intro w hSw; go_simp⟩) hHeld ?_
              try simp only [Act.put, List.setIfInBounds_toArray, List.set_cons_zero, List.set_cons_succ]
              refine wpAnyH_take (i := 4) (oi := ⟨some 39, _, _, _, _, _⟩) (v := .bool true) rfl (by kernel_rfl) (by kernel_rfl) (by kernel_rfl) (fun _ _ _ h => h) (Or.inl ⟨by rfl, by intro w hSw; go_simp⟩) hHeld ?_
              try simp only [Act.put, List.setIfInBounds_toArray, List.set_cons_zero, List.set_cons_succ]
              refine wpAnyH_take (i := 5) (oi := ⟨some 40, _, _, _, _, _⟩) (v := ?_) rfl (by kernel_rfl) (by kernel_rfl) (by kernel_rfl) (fun _ _ _ h => h) (Or.inl ⟨by rfl, ?_⟩) hHeld ?_
              rotate_left
              · intro w hSw; go_simp; try with_reducible rfl
              try simp only [Act.put, List.setIfInBounds_toArray, List.set_cons_zero, List.set_cons_succ]
              refine wpAnyH_take (i := 6) (oi := ⟨some 41, _, _, _, _, _⟩) (v := ?_) rfl (by kernel_rfl) (by kernel_rfl) (by kernel_rfl) (fun _ _ _ h => h) (Or.inl ⟨by rfl, ?_⟩) hHeld ?_
              rotate_left
              · intro w hSw; go_simp; try with_reducible rfl
              try simp only [Act.put, List.setIfInBounds_toArray, List.set_cons_zero, List.set_cons_succ]
              refine wpAnyH_take (i := 7) (oi := ⟨some 42, _, _, _, _, _⟩) (v := ?_) rfl (by kernel_rfl) (by kernel_rfl) (by kernel_rfl) (fun _ _ _ h => h) (Or.inl ⟨by rfl, ?_⟩) hHeld ?_
              rotate_left
              · intro w hSw; go_simp; try with_reducible rfl
              try simp only [Act.put, List.setIfInBounds_toArray, List.set_cons_zero, List.set_cons_succ]
              refine wpAnyH_take (i := 8) (oi := ⟨some 43, _, _, _, _, _⟩) (v := ?_) rfl (by kernel_rfl) (by kernel_rfl) (by kernel_rfl) (fun _ _ _ h => h) (Or.inl ⟨by rfl, ?_⟩) hHeld ?_
              rotate_left
              · intro w hSw; go_simp; try with_reducible rfl
              try simp only [Act.put, List.setIfInBounds_toArray, List.set_cons_zero, List.set_cons_succ]
              refine wpAnyH_take (i := 9) (oi := ⟨some 44, _, _, _, _, _⟩) (v := ?_) rfl (by kernel_rfl) (by kernel_rfl) (by kernel_rfl) (fun _ _ _ h => h) (Or.inl ⟨by rfl, ?_⟩) hHeld ?_
              rotate_left
              · intro w hSw; go_simp; try with_reducible rfl
              try simp only [Act.put, List.setIfInBounds_toArray, List.set_cons_zero, List.set_cons_succ]
              refine wpAnyH_take (i := 10) (oi := ⟨some 45, _, _, _, _, _⟩) (v := ?_) rfl (by kernel_rfl) (by kernel_rfl) (by kernel_rfl) (fun _ _ _ h => h) (Or.inl ⟨by rfl, ?_⟩) hHeld ?_
              rotate_left
              · intro w hSw; go_simp; try with_reducible rfl
              try simp only [Act.put, List.setIfInBounds_toArray, List.set_cons_zero, List.set_cons_succ]
              refine wpAnyH_take (i := 11) (oi := ⟨some 46, _, _, _, _, _⟩) (v := ?_) rfl (by kernel_rfl) (by kernel_rfl) (by kernel_rfl) (fun _ _ _ h => h) (Or.inl ⟨by rfl, ?_⟩) hHeld ?_
              rotate_left
              · intro w hSw; go_simp; try with_reducible rfl
              try simp only [Act.put, List.setIfInBounds_toArray, List.set_cons_zero, List.set_cons_succ]
              refine wpAnyH_take (i := 12) (oi := ⟨some 47, _, _, _, _, _⟩) (v := ?_) rfl (by kernel_rfl) (by kernel_rfl) (by kernel_rfl) (fun _ _ _ h => h) (Or.inl ⟨by rfl, ?_⟩) hHeld ?_
              rotate_left
              · intro w hSw; go_simp; try with_reducible rfl
              try simp only [Act.put, List.setIfInBounds_toArray, List.set_cons_zero, List.set_cons_succ]
              refine wpAnyH_ready (rs := [13]) (by kernel_rfl) (by simp) (AllReadyH.cons (o := ⟨some 48, _, _, _, _, _⟩) rfl (fun K hK => ?_) AllReadyH.nil)
              go_simp
              refine (hcanc.out _ (hrr.out.ext (hHeld.2.ext (Ext.refl _) (Nat.le_refl _)))).mono ?_
              rintro e w2 ⟨rfl, he⟩
              go_wp2_with fail
              refine hK.out _ _ ((hHeld.2.call he).both) (fun hHeld => ?_)
              clear hK K
              try simp only [Act.put, List.setIfInBounds_toArray, List.set_cons_zero, List.set_cons_succ]
              refine wpAnyH_take (i := 14) (oi := ⟨some 49, _, _, _, _, _⟩) (v := .bool false) rfl (by kernel_rfl) (by kernel_rfl) (by kernel_rfl) (fun _ _ _ h => h) (Or.inl ⟨by rfl, by intro w hSw; go_simp⟩) hHeld ?_
              try simp only [Act.put, List.setIfInBounds_toArray, List.set_cons_zero, List.set_cons_succ]
              refine wpAnyH_take (i := 15) (oi := ⟨some 50, _, _, _, _, _⟩) (v := .bool false) rfl (by kernel_rfl) (by kernel_rfl) (by kernel_rfl) (fun _ _ _ h => h) (Or.inl ⟨by rfl, by intro w hSw; go_simp⟩) hHeld ?_
              try simp only [Act.put, List.setIfInBounds_toArray, List.set_cons_zero, List.set_cons_succ]
              refine wpAnyH_take (i := 16) (oi := ⟨some 51, _, _, _, _, _⟩) (v := undef) rfl (by kernel_rfl) (by kernel_rfl) (by kernel_rfl) (fun _ _ _ h => h) (Or.inr ⟨by kernel_rfl, rfl⟩) hHeld ?_
              try simp only [Act.put, List.setIfInBounds_toArray, List.set_cons_zero, List.set_cons_succ]
              refine wpAnyH_take (i := 17) (oi := ⟨some 52, _, _, _, _, _⟩) (v := undef) rfl (by kernel_rfl) (by kernel_rfl) (by kernel_rfl) (fun _ _ _ h => h) (Or.inr ⟨by kernel_rfl, rfl⟩) hHeld ?_
              try simp only [Act.put, List.setIfInBounds_toArray, List.set_cons_zero, List.set_cons_succ]
              refine wpAnyH_take (i := 18) (oi := ⟨some 53, _, _, _, _, _⟩) (v := undef) rfl (by kernel_rfl) (by kernel_rfl) (by kernel_rfl) (fun _ _ _ h => h) (Or.inr ⟨by kernel_rfl, rfl⟩) hHeld ?_
              try simp only [Act.put, List.setIfInBounds_toArray, List.set_cons_zero, List.set_cons_succ]
              refine wpAnyH_take (i := 19) (oi := ⟨some 54, _, _, _, _, _⟩) (v := undef) rfl (by kernel_rfl) (by kernel_rfl) (by kernel_rfl) (fun _ _ _ h => h) (Or.inr ⟨by kernel_rfl, rfl⟩) hHeld ?_
              try simp only [Act.put, List.setIfInBounds_toArray, List.set_cons_zero, List.set_cons_succ]
              refine wpAnyH_take (i := 20) (oi := ⟨some 55, _, _, _, _, _⟩) (v := undef) rfl (by kernel_rfl) (by kernel_rfl) (by kernel_rfl) (fun _ _ _ h => h) (Or.inr ⟨by kernel_rfl, rfl⟩) hHeld ?_
              try simp only [Act.put, List.setIfInBounds_toArray, List.set_cons_zero, List.set_cons_succ]
              refine wpAnyH_take (i := 21) (oi := ⟨some 56, _, _, _, _, _⟩) (v := undef) rfl (by kernel_rfl) (by kernel_rfl) (by kernel_rfl) (fun _ _ _ h => h) (Or.inr ⟨by kernel_rfl, rfl⟩) hHeld ?_
              try simp only [Act.put, List.setIfInBounds_toArray, List.set_cons_zero, List.set_cons_succ]
              refine wpAnyH_take (i := 22) (oi := ⟨some 57, _, _, _, _, _⟩) (v := undef) rfl (by kernel_rfl) (by kernel_rfl) (by kernel_rfl) (fun _ _ _ h => h) (Or.inr ⟨by kernel_rfl, rfl⟩) hHeld ?_
              try simp only [Act.put, List.setIfInBounds_toArray, List.set_cons_zero, List.set_cons_succ]
              refine wpAnyH_take (i := 23) (oi := ⟨some 58, _, _, _, _, _⟩) (v := undef) rfl (by kernel_rfl) (by kernel_rfl) (by kernel_rfl) (fun _ _ _ h => h) (Or.inr ⟨by kernel_rfl, rfl⟩) hHeld ?_
              try simp only [Act.put, List.setIfInBounds_toArray, List.set_cons_zero, List.set_cons_succ]
              refine wpAnyH_take (i := 24) (oi := ⟨some 59, _, _, _, _, _⟩) (v := undef) rfl (by kernel_rfl) (by kernel_rfl) (by kernel_rfl) (fun _ _ _ h => h) (Or.inr ⟨by kernel_rfl, rfl⟩) hHeld ?_
              try simp only [Act.put, List.setIfInBounds_toArray, List.set_cons_zero, List.set_cons_succ]
              refine wpAnyH_take (i := 25) (oi := ⟨some 60, _, _, _, _, _⟩) (v := undef) rfl (by kernel_rfl) (by kernel_rfl) (by kernel_rfl) (fun _ _ _ h => h) (Or.inr ⟨by kernel_rfl, rfl⟩) hHeld ?_
              try simp only [Act.put, List.setIfInBounds_toArray, List.set_cons_zero, List.set_cons_succ]
              refine wpAnyH_take (i := 26) (oi := ⟨some 61, _, _, _, _, _⟩) (v := undef) rfl (by kernel_rfl) (by kernel_rfl) (by kernel_rfl) (fun _ _ _ h => h) (Or.inr ⟨by kernel_rfl, rfl⟩) hHeld ?_
              try simp only [Act.put, List.setIfInBounds_toArray, List.set_cons_zero, List.set_cons_succ]
              refine wpAnyH_take (i := 27) (oi := ⟨some 62, _, _, _, _, _⟩) (v := undef) rfl (by kernel_rfl) (by kernel_rfl) (by kernel_rfl) (fun _ _ _ h => h) (Or.inr ⟨by kernel_rfl, rfl⟩) hHeld ?_
              try simp only [Act.put, List.setIfInBounds_toArray, List.set_cons_zero, List.set_cons_succ]
              refine wpAnyH_take (i := 28) (oi := ⟨some 63, _, _, _, _, _⟩) (v := undef) rfl (by kernel_rfl) (by kernel_rfl) (by kernel_rfl) (fun _ _ _ h => h) (Or.inr ⟨by kernel_rfl, rfl⟩) hHeld ?_
              try simp only [Act.put, List.setIfInBounds_toArray, List.set_cons_zero, List.set_cons_succ]
              refine wpAnyH_take (i := 29) (oi := ⟨some 64, _, _, _, _, _⟩) (v := undef) rfl (by kernel_rfl) (by kernel_rfl) (by kernel_rfl) (fun _ _ _ h => h) (Or.inr ⟨by kernel_rfl, rfl⟩) hHeld ?_
              try simp only [Act.put, List.setIfInBounds_toArray, List.set_cons_zero, List.set_cons_succ]
              refine wpAnyH_take (i := 30) (oi := ⟨some 65, _, _, _, _, _⟩) (v := undef) rfl (by kernel_rfl) (by kernel_rfl) (by kernel_rfl) (fun _ _ _ h => h) (Or.inr ⟨by kernel_rfl, rfl⟩) hHeld ?_
              try simp only [Act.put, List.setIfInBounds_toArray, List.set_cons_zero, List.set_cons_succ]
              refine wpAnyH_take (i := 31) (oi := ⟨some 66, _, _, _, _, _⟩) (v := undef) rfl (by kernel_rfl) (by kernel_rfl) (by kernel_rfl) (fun _ _ _ h => h) (Or.inr ⟨by kernel_rfl, rfl⟩) hHeld ?_
              try simp only [Act.put, List.setIfInBounds_toArray, List.set_cons_zero, List.set_cons_succ]
              refine wpAnyH_take (i := 32) (oi := ⟨some 67, _, _, _, _, _⟩) (v := undef) rfl (by kernel_rfl) (by kernel_rfl) (by kernel_rfl) (fun _ _ _ h => h) (Or.inr ⟨by kernel_rfl, rfl⟩) hHeld ?_
              try simp only [Act.put, List.setIfInBounds_toArray, List.set_cons_zero, List.set_cons_succ]
              refine wpAnyH_take (i := 33) (oi := ⟨some 68, _, _, _, _, _⟩) (v := undef) rfl (by kernel_rfl) (by kernel_rfl) (by kernel_rfl) (fun _ _ _ h => h) (Or.inr ⟨by kernel_rfl, rfl⟩) hHeld ?_
              try simp only [Act.put, List.setIfInBounds_toArray, List.set_cons_zero, List.set_cons_succ]
              refine wpAnyH_take (i := 34) (oi := ⟨some 69, _, _, _, _, _⟩) (v := undef) rfl (by kernel_rfl) (by kernel_rfl) (by kernel_rfl) (fun _ _ _ h => h) (Or.inr ⟨by kernel_rfl, rfl⟩) hHeld ?_
              try simp only [Act.put, List.setIfInBounds_toArray, List.set_cons_zero, List.set_cons_succ]
              refine wpAnyH_take (i := 35) (oi := ⟨some 70, _, _, _, _, _⟩) (v := .bool false) rfl (by kernel_rfl) (by kernel_rfl) (by kernel_rfl) (fun _ _ _ h => h) (Or.inl ⟨by rfl, by intro w hSw; go_simp⟩) hHeld ?_
              try simp only [Act.put, List.setIfInBounds_toArray, List.set_cons_zero, List.set_cons_succ]
              refine wpAnyH_done (by kernel_rfl) ?_ _
              go_wp2_with fail
              go_roundw
              case rel => exact ⟨(j : Int) - 1, px, by omega, by omega, rfl, rfl, Lib.hid (HP.out.no hno.out), hX.out.drew.trans he⟩
              case measure => simp [intOf]
            | true =>
              have hcanc := Lib.hid (show ∀ W, RdI W (.slice MA ws[j].mach.length mcap) ws[j].mach → Calls Try.prog 14 #[.agg #[.string ws[j].name, .slice MA ws[j].mach.length mcap], .int .i64 needs[k]] W fun e w' => e = .returned (.bool true) ∧ Ext W w' from fun W h => by
                have := c_refcan ws[j].name (.slice MA ws[j].mach.length mcap) needs[k] ws[j].mach W h
                rwa [hcan] at this)
              obtain ⟨X, hX0⟩ : ∃ X : Nat, X = S ||| 2 ^ j := ⟨_, rfl⟩
              have hXN : X < N := by
                have h1 : S < 2 ^ ws.length := by rw [← hN.out]; exact hS
                have h2 : 2 ^ j < 2 ^ ws.length := Nat.pow_lt_pow_right (by omega) hjl
                have h3 := Nat.or_lt_two_pow h1 h2
                rw [hX0, hN.out]; exact h3
              have hpk := Lib.hid (show pkT cs ws.length k S j = decide (1 + tbl cs ws.length (k + 1) X = tbl cs ws.length k S) by unfold pkT; rw [hbit, hcs.out, hcan, ← hX0]; rfl)
              have hwith := Lib.hid (show ∀ W, Calls Try.prog 36 #[.int .i64 S, .int .i64 j] W fun e w' => e = .returned (.int .i64 (X : Nat)) ∧ W = w' from fun W => (c_with S j W (by omega) (by omega)).mono fun e w' ⟨h1, h2⟩ => ⟨by rw [h1, hX0], h2⟩)
              have q1 := hXt.out.cell hr1.out
              have q0 := hXt.out.cell hr0.out
              have q2 := hXt.out.cell (hrow1.out X hXN)
              have q3 := hXt.out.cell hrS.out
              have l1 : gt < wr.heap.size := World.block_lt_of_cell? wr _ q1
              have l2 : c1 < wr.heap.size := World.block_lt_of_cell? wr _ q2
              have l3 : c0 < wr.heap.size := World.block_lt_of_cell? wr _ q3
              have hT1 : tbl cs ws.length (k + 1) X ≤ 16 := by have := tbl_le cs ws.length (k + 1) X; rw [hlen.out] at this; omega
              have hT0 : tbl cs ws.length k S ≤ 16 := by have := tbl_le cs ws.length k S; rw [hlen.out] at this; omega
              clear hbit hcan
              replace hX0 := Lib.hid hX0
              generalize tbl cs ws.length (k + 1) X = T1 at *
              generalize tbl cs ws.length k S = T0 at *
              have k4 : (0 : Int) ≤ (X : Int) := by omega
              have k5 : (X : Int) < (N : Int) := by omega
              have k6 : (0 : Int) ≤ (S : Int) := by omega
              have k7 : (S : Int) < (N : Int) := by omega
              have k8 : (0 : Int) ≤ (k : Int) + 1 := by omega
              have k9 : (k : Int) + 1 < (needs.length : Int) + 1 := by omega
              have k10 : (k : Int) < (needs.length : Int) + 1 := by omega
              have k11 : IntKind.i64.wrap (1 + (T1 : Int)) = 1 + (T1 : Int) := IntWalk.i64_in _ (by omega)
              have k12 : IntKind.i64.wrap ((k : Int) + 1) = (k : Int) + 1 := IntWalk.i64_in _ (by omega)
              have k13 : ((k : Int) + 1).toNat = k + 1 := by omega
              go_wp2_with fail
              go_region_held3 (fun w' => (∀ b o, b < wr.heap.size → w'.cell? ⟨b, o, none⟩ = wr.cell? ⟨b, o, none⟩) ∧ Kp wr.heap.size wr w')
                (first
                  | exact (Kp.start hNN).drew.both
                  | (go_split_ands; exact ((by assumption : Kp _ _ _).call he).both)
                  | assumption)
                (first
                  | (go_at_call 35; (with_reducible refine (hhas.out _).mono ?_); rintro e w3 ⟨rfl, rfl⟩)
                  | (go_at_call 36; (with_reducible refine (hwith.out _).mono ?_); rintro e w3 ⟨rfl, rfl⟩)
                  | (go_at_call 14; go_split_ands; refine (hcanc.out _ (hrr.out.ext ((by assumption : Kp _ _ _).ext (Ext.refl _) (Nat.le_refl _)))).mono ?_; rintro e w2 ⟨rfl, he⟩))
              have hfin := Lib.hid (hX.out.drew.trans he)
              clear he k11 k12 k13
              cases hq : ((1 + (T1 : Int)) == (T0 : Int)) with
              | true =>
                have hyes := Lib.hid (show pkT cs ws.length k S j = true by rw [hpk.out]; simp at hq; simp; omega)
                go_wp2_with fail
                go_roundw
                case rel => exact ⟨(j : Int) - 1, j, by omega, by omega, rfl, rfl, Lib.hid (PkUp.yes hjl hyes.out), hfin.out⟩
                case measure => simp [intOf]
              | false =>
                have hno := Lib.hid (show pkT cs ws.length k S j = false by rw [hpk.out]; simp at hq; simp; omega)
                go_wp2_with fail
                go_roundw
                case rel => exact ⟨(j : Int) - 1, px, by omega, by omega, rfl, rfl, Lib.hid (HP.out.no hno.out), hfin.out⟩
                case measure => simp [intOf]
        · obtain rfl : t = -1 := by omega
          have hO := Lib.hid (hown.out.ext hX.out)
          have hXt := Lib.hid (hext.out.trans hX.out)
          rcases HP.out with ⟨e, hno⟩ | ⟨j, e, _, hjl, hyes, hno⟩
          · subst e
            obtain ⟨m1, m2⟩ := pk_none HM.out (by rw [hlen.out]; exact hlt) (hin.out k) (fun i hi => hno i (by omega) hi)
            replace m1 := Lib.hid m1
            replace m2 := Lib.hid m2
            clear hno
            go_wp2_with (at_builtin; refine wpList_app1 rfl (.tmp 72) (.tmp 74) 26 rfl .i64 3 w1.heap.size 8 Try.underlying26 info3 (by decide) (.slice Ao k capo) (matM cs k).2.2 (-1) wr.heap.size 1 rfl (hO.out.alloc _) rfl ?_ ?_ ?_ ?_; (simp); (rw [hml.out]; omega); (have := hXt.out.size; simp; omega); (intro A2 cap2 w2 ho hg hat))
            go_roundw
            case rel =>
              refine ⟨k + 1, S, by omega, hS, by go_num, rfl, m1, ?_, (hO.out.alloc _).extGrown (hXt.out.alloc _) (Nat.le_refl _) hg⟩
              rw [m2.out]; exact ho
            case measure => simp [intOf]; omega
          · subst e
            obtain ⟨m1, m2⟩ := pk_some HM.out (by rw [hlen.out]; exact hlt) hjl h12 hyes (fun i hi => hno i (by omega) hi)
            replace m1 := Lib.hid m1
            replace m2 := Lib.hid m2
            clear hno
            have hXN : S ||| 2 ^ j < N := by
              have h1 : S < 2 ^ ws.length := by rw [← hN.out]; exact hS
              have h2 : 2 ^ j < 2 ^ ws.length := Nat.pow_lt_pow_right (by omega) hjl
              have h3 := Nat.or_lt_two_pow h1 h2
              rw [hN.out]; exact h3
            replace hXN := Lib.hid hXN
            have hposj : (0 : Int) ≤ (j : Int) := by omega
            go_wp2_with (first
              | (at_builtin; refine wpList_app1 rfl (.tmp 72) (.tmp 74) 26 rfl .i64 3 w1.heap.size 8 Try.underlying26 info3 (by decide) (.slice Ao k capo) (matM cs k).2.2 j wr.heap.size 1 rfl (hO.out.alloc _) rfl ?_ ?_ ?_ ?_; (simp); (rw [hml.out]; omega); (have := hXt.out.size; simp; omega); (intro A2 cap2 w2 ho hg hat))
              | (go_at_call 36; refine (c_with S j _ (by omega) (by omega)).mono ?_; rintro e w3 ⟨rfl, rfl⟩))
            go_roundw
            case rel =>
              refine ⟨k + 1, S ||| 2 ^ j, by omega, hXN.out, by go_num, rfl, m1, ?_, (hO.out.alloc _).extGrown (hXt.out.alloc _) (Nat.le_refl _) hg⟩
              rw [m2.out]; exact ho
            case measure => simp [intOf]; omega
    · have hkn : k = cs.length := by rw [hlen.out]; omega
      go_wp2_with fail
      go_ret2
      refine ⟨_, rfl, ?_, hX1.out.trans hext.out⟩
      rw [hmt.out, ← hkn]
      have h1 := hown.out.rdI
      exact h1
end Go.Proofs.Ythfcllefmeoicaa
