/- SkillMore walked. -/
import Derived.Test.YthfcllefmeoicaaAppW
import Derived.Test.YthfcllefmeoicaaLawC
import Derived.Test.YthfcllefmeoicaaSNa
namespace Go.Proofs.Ythfcllefmeoicaa
open Go.RowKit
attribute [local go_sem ↓] Go.wp_at_zero Go.wp_at_succ

theorem wkE_zero (bef : List Wk) (x : Wk) : wkE bef x = 0 ↔ nmB x.name = true ∧ hasName bef x.name = false ∧ machE [] x.mach = 0 := by
  unfold wkE
  cases nmB x.name <;> cases hasName bef x.name <;> simp
theorem chkW_zero (ws : List Wk) : chkW ws = 0 ↔ ws.length ≤ 12 ∧ ∀ k (h : k < ws.length), nmB ws[k].name = true ∧ hasName (ws.take k) ws[k].name = false ∧ machE [] ws[k].mach = 0 := by
  unfold chkW
  by_cases h12 : 12 < ws.length
  · rw [if_pos h12]
    exact ⟨(fun h => by cases h), (fun h => by omega)⟩
  · rw [if_neg h12, errsW_zero]
    constructor
    · intro h
      refine ⟨by omega, fun k hk => ?_⟩
      have := h k hk
      rw [List.nil_append] at this
      exact (wkE_zero _ _).1 this
    · rintro ⟨_, h⟩ k hk
      rw [List.nil_append]
      exact (wkE_zero _ _).2 (h k hk)
theorem hasName_no {l : List Wk} {k : Nat} {s : ByteArray} (h : hasName (l.take k) s = false) (j : Nat) (hj : j < k) (hl : j < l.length) : (l[j].name.toList == s.toList) = false := by
  unfold hasName at h
  rw [List.any_eq_false] at h
  have := h l[j] (List.mem_take_iff_getElem.2 ⟨j, by omega, rfl⟩)
  simpa using this
/-- a worker's place in the whole list -/
def up (i j : Nat) : Nat := if j < i then j else j + 1
theorem erase_at {α : Type} (ws : List α) (i j : Nat) (h : j < (ws.eraseIdx i).length) (h' : up i j < ws.length) : (ws.eraseIdx i)[j] = ws[up i j] := by
  rw [List.getElem_eraseIdx]
  unfold up
  by_cases hji : j < i
  · rw [dif_pos hji]; simp only [if_pos hji]
  · rw [dif_neg hji]; simp only [if_neg hji]
theorem up_lt {α : Type} {ws : List α} {i j : Nat} (hi : i < ws.length) (h : j < (ws.eraseIdx i).length) : up i j < ws.length := by
  rw [List.length_eraseIdx_of_lt hi] at h
  unfold up; split <;> omega
theorem up_mono {i j k : Nat} (h : j < k) : up i j < up i k := by unfold up; split <;> split <;> omega
theorem up_inj {i j k : Nat} (h : up i j = up i k) : j = k := by unfold up at h; split at h <;> split at h <;> omega
theorem chk_fewer {ws : List Wk} (h : chkW ws = 0) (i : Nat) (hi : i < ws.length) : chkW (ws.eraseIdx i) = 0 := by
  rw [chkW_zero] at h ⊢
  refine ⟨by rw [List.length_eraseIdx_of_lt hi]; omega, fun k hk => ?_⟩
  have hu := up_lt hi hk
  obtain ⟨h1, h2, h3⟩ := h.2 (up i k) hu
  rw [erase_at ws i k hk hu]
  refine ⟨h1, ?_, h3⟩
  unfold hasName
  rw [List.any_eq_false]
  intro x hx
  obtain ⟨j, hj, rfl⟩ := List.mem_take_iff_getElem.1 hx
  have hj' : j < (ws.eraseIdx i).length := by omega
  rw [erase_at ws i j hj' (up_lt hi hj')]
  have := hasName_no h2 (up i j) (up_mono (by omega)) (up_lt hi hj')
  rw [this]; simp
theorem askE_zero (ws : List Wk) (needs : List Int) : askE ws needs = 0 ↔ chkW ws = 0 ∧ needs.length ≤ 16 ∧ ∀ m ∈ needs, isM m = true := by
  constructor
  · intro h
    obtain ⟨a, _, b, c⟩ := askE_ok h
    exact ⟨a, b, c⟩
  · rintro ⟨a, b, c⟩
    unfold askE
    rw [if_pos a, if_neg (by omega), if_pos (List.all_eq_true.2 c)]
/-- fewer workers or needs give no error where the whole lists give none -/
theorem ask_fewer {ws : List Wk} {needs : List Int} (h : askE ws needs = 0) (i : Nat) (hi : i < ws.length) : askE (ws.eraseIdx i) needs = 0 := by
  rw [askE_zero] at h ⊢
  exact ⟨chk_fewer h.1 i hi, h.2⟩
theorem ask_less {ws : List Wk} {needs : List Int} (h : askE ws needs = 0) (i : Nat) (hi : i < needs.length) : askE ws (needs.eraseIdx i) = 0 := by
  rw [askE_zero] at h ⊢
  exact ⟨h.1, by rw [List.length_eraseIdx_of_lt hi]; omega, fun m hm => h.2.2 m (List.mem_of_mem_eraseIdx hm)⟩
theorem fills_larg {ws : List Wk} {needs : List Int} (h : askE ws needs = 0) : filledI (mtL ws needs) = larg (setsW ws needs) (fun _ => false) := by
  unfold mtL; rw [if_pos h, filledI_pos, matL_fills]
theorem fills_fewer {ws : List Wk} {needs : List Int} (h : askE ws needs = 0) (i : Nat) (hi : i < ws.length) :
    filledI (mtL (ws.eraseIdx i) needs) ≤ filledI (mtL ws needs) ∧ filledI (mtL ws needs) ≤ filledI (mtL (ws.eraseIdx i) needs) + 1 := by
  obtain ⟨_, h12, _, _⟩ := askE_ok h
  have hle := List.length_eraseIdx_of_lt hi
  rw [fills_larg h, fills_larg (ask_fewer h i hi)]
  constructor
  · refine larg_map (by rw [setsW_len, setsW_len]) (up i) ?_ ?_
    · intro j x _ hx
      obtain ⟨hj, hx', hm⟩ := able_of hx
      have hu := up_lt hi hx'
      refine ⟨by omega, ?_⟩
      rw [able_at hj hu, ← erase_at ws i x hx' hu]; exact hm
    · intro _ _ x y _ _ _ _ e; exact up_inj e
  · refine larg_map1 (by rw [setsW_len, setsW_len]) i (fun j => if j < i then j else j - 1) ?_ ?_
    · intro j x _ hne hx
      obtain ⟨hj, hx', hm⟩ := able_of hx
      have hlt : (if x < i then x else x - 1) < (ws.eraseIdx i).length := by rw [hle]; split <;> omega
      refine ⟨by omega, ?_⟩
      rw [able_at hj hlt, erase_at ws i _ hlt (up_lt hi hlt)]
      have hup : up i (if x < i then x else x - 1) = x := by
        unfold up
        by_cases hxi : x < i
        · rw [if_pos hxi, if_pos hxi]
        · rw [if_neg hxi, if_neg (by omega)]; omega
      have : ws[up i (if x < i then x else x - 1)]'(up_lt hi hlt) = ws[x] := by congr 1
      rw [this]; exact hm
    · intro _ _ x y _ _ hx hy _ _ e
      by_cases h1 : x < i <;> by_cases h2 : y < i <;> simp [h1, h2] at e <;> omega
theorem setsW_erase (ws : List Wk) (needs : List Int) (i : Nat) : setsW ws (needs.eraseIdx i) = (setsW ws needs).eraseIdx i := by
  unfold setsW
  apply List.ext_getElem?
  intro j
  rw [List.getElem?_map, List.getElem?_eraseIdx, List.getElem?_eraseIdx]
  by_cases h : j < i
  · rw [if_pos h, if_pos h, List.getElem?_map]
  · rw [if_neg h, if_neg h, List.getElem?_map]
theorem tmod_nat (a : Int) (n : Nat) (ha : 0 ≤ a) (h : 0 < n) : ∃ i : Nat, i < n ∧ a.tmod (n : Int) = (i : Int) := by
  have h1 := Int.emod_lt_of_pos a (show (0 : Int) < n by omega)
  have h2 := Int.emod_nonneg a (show (n : Int) ≠ 0 by omega)
  rw [Int.tmod_eq_emod_of_nonneg ha]
  generalize a % (n : Int) = x at *
  exact ⟨x.toNat, by omega, by omega⟩
theorem fills_less {ws : List Wk} {needs : List Int} (h : askE ws needs = 0) (i : Nat) (hi : i < needs.length) :
    filledI (mtL ws (needs.eraseIdx i)) ≤ filledI (mtL ws needs) ∧ filledI (mtL ws needs) ≤ filledI (mtL ws (needs.eraseIdx i)) + 1 := by
  rw [fills_larg h, fills_larg (ask_less h i hi), setsW_erase]
  exact ⟨larg_less _ i (by rw [setsW_len]; exact hi), larg_less1 _ i (by rw [setsW_len]; exact hi)⟩

theorem srcW_take {w : World} {A : Option Addr} {l : List EW} (h : SrcW w A l) (i : Nat) : SrcW w A (l.take i) := fun j hj => by
  rw [List.length_take] at hj
  obtain ⟨b, o, e, h1, h2⟩ := h j (by omega)
  exact ⟨b, o, e, by rw [List.getElem_take]; exact h1, by rw [List.getElem_take]; exact h2⟩
theorem srcW_drop {w : World} {b o : Nat} {l : List EW} (h : SrcW w (some ⟨b, o, none⟩) l) (i : Nat) : SrcW w (some ⟨b, o + i * 2, none⟩) (l.drop i) := fun j hj => by
  rw [List.length_drop] at hj
  obtain ⟨b', o', e, h1, h2⟩ := h (i + j) (by omega)
  obtain ⟨rfl, rfl⟩ : b = b' ∧ o = o' := by simpa using e
  refine ⟨b, _, rfl, ?_, ?_⟩
  · rw [List.getElem_drop, ← h1]; congr 2; omega
  · rw [List.getElem_drop, ← h2]; congr 2; omega

set_option maxRecDepth 100000 in
set_option maxHeartbeats 1000000 in
theorem w_more (v u : Value) (a : Int) (ws : List Wk) (needs : List Int) (w : World) (h : RdW w v ws) (g : RdI w u needs) (ha : (Lit.int .u8 a).wf = true) :
    Calls Try.prog 8 #[v, u, .int .u8 a] w fun e w' => e = .returned (.bool true) ∧ Ext w w' := by
  have hx : 0 ≤ a ∧ a ≤ 255 := by simpa [Lit.wf, IntKind.min, IntKind.max, IntKind.signed, IntKind.bits] using ha
  obtain ⟨ha0, ha1⟩ := hx
  clear ha
  have hh := Lib.hid h
  have gg := Lib.hid g
  obtain ⟨A, cap, rfl, hcap, hmax, hc⟩ := h
  obtain ⟨B, capB, rfl, hcapB, hmaxB, hd⟩ := g
  unfold maxLen at hmax hmaxB
  clear hc
  replace hd := Lib.hid hd
  obtain ⟨l, hl, hsrc, hgood⟩ := hh.out.open_
  have hll : l.length = ws.length := by rw [← hl]; simp
  replace hl := Lib.hid hl
  replace hsrc := Lib.hid hsrc
  replace hgood := Lib.hid hgood
  cases hL : lightB ws needs.length with
  | false =>
    go_enter Try.func8, Try.ntmps8
    go_wp2_with fail
    refine (c_light _ _ ws needs _ hh.out gg.out).mono ?_
    rintro e w1 ⟨rfl, rfl⟩
    rw [hL]
    go_wp2_with fail
    refine (c_alive _).mono ?_
    rintro e w1 ⟨rfl, he⟩
    replace he := Lib.hid he
    go_wp2_with fail
    go_ret
    exact ⟨rfl, he.out⟩
  | true =>
    have h14 : ws.length ≤ 14 ∧ needs.length ≤ 20 := by simp [lightB] at hL; omega
    obtain ⟨h14, h20⟩ := h14
    go_enter Try.func8, Try.ntmps8
    go_wp2_with fail
    refine (c_light _ _ ws needs _ hh.out gg.out).mono ?_
    rintro e w1 ⟨rfl, rfl⟩
    rw [hL]
    clear hL
    replace hll := Lib.hid hll
    go_wp2_with fail
    refine (c_matchAny _ _ ws needs _ hh.out gg.out).mono ?_
    rintro e w1 ⟨r, rfl, hR, _, hE⟩
    replace hR := Lib.hid hR
    replace hE := Lib.hid hE
    by_cases h0 : askE ws needs = 0 ∧ 0 < ws.length ∧ 0 < needs.length
    · obtain ⟨h0, hw0, hn0⟩ := h0
      have hE0 : (askE ws needs != 0) = false := by simp [h0]
      have hw1 : ((ws.length : Int) == 0) = false := beq_eq_false_iff_ne.2 (by omega)
      have hn1 : ((needs.length : Int) == 0) = false := beq_eq_false_iff_ne.2 (by omega)
      obtain ⟨i, hi, hia⟩ := tmod_nat a ws.length ha0 hw0
      obtain ⟨k, hk, hka⟩ := tmod_nat a needs.length ha0 hn0
      have hw2 : ((ws.length : Int) = 0) = False := eq_false (by omega)
      have hn2 : ((needs.length : Int) = 0) = False := eq_false (by omega)
      replace h0 := Lib.hid h0
      go_wp2_with fail
      go_quiet (fail)
      have hW : Ext w (w1.drewN nq) := hE.out.drewN nq
      have hRW := Lib.hid (hR.out.ext ((Ext.refl w1).drewN nq))
      generalize w1.drewN nq = W at hW hRW
      replace hW := Lib.hid hW
      clear hR hE hw1 hn1 hw2 hn2 hia hka
      obtain ⟨b, o, rfl, _, _⟩ := hsrc.out 0 (by have := hll.out; omega)
      have hN : W.heap.size ≤ W.heap.size := Nat.le_refl _
      have j0 : (0 : Int) ≤ (i : Int) := by omega
      have j1 : (i : Int) ≤ (cap : Int) := by omega
      have j2 : IntKind.i64.wrap ((i : Int) + 1) = (i : Int) + 1 := IntWalk.i64_in _ (by omega)
      have j3 : (0 : Int) ≤ (i : Int) + 1 := by omega
      have j4 : (i : Int) + 1 ≤ (ws.length : Int) := by omega
      have j5 : ((i : Int) + 1).toNat = i + 1 := by omega
      have j6 : (i : Int) + 1 ≤ (cap : Int) := by omega
      have ht1 := Lib.hid (show (l.take i).length = i by rw [List.length_take]; have := hll.out; omega)
      have ht2 := Lib.hid (show (l.drop (i + 1)).length = ws.length - (i + 1) by rw [List.length_drop, hll.out])
      have hE1 := Lib.hid (show Ext W (W.drew.alloc (.cells #[] 28)) from (Ext.refl _).drew.alloc _)
      have ho1 := Lib.hid (show OwnW W.heap.size (W.drew.alloc (.cells #[] 28)) (.slice (some ⟨W.heap.size, 0, none⟩) 0 0) [] from ⟨rfl, .inr ⟨W.heap.size, 0, #[], rfl, Nat.le_refl _, Blk.new W.drew 28 #[], Nat.le_refl _, by unfold maxLen; omega, rfl, rfl⟩⟩)
      have hgd1 := Lib.hid (show GoodW W (l.take i) from fun x hx => (hgood.out.ext hW.out) x (List.mem_of_mem_take hx))
      have hgd2 := Lib.hid (show GoodW W (l.drop (i + 1)) from fun x hx => (hgood.out.ext hW.out) x (List.mem_of_mem_drop hx))
      have hs1 := Lib.hid (srcW_take (hsrc.out.ext hW.out) i)
      have j7 : (i : Int) ≤ (i : Int) + 1 := by omega
      rcases Decidable.em (cap = i + 1) with hce | hce
      focus
        have hs2 := Lib.hid (show SrcW W (some ⟨b, o, none⟩) (l.drop (i + 1)) from fun j hj => by rw [List.length_drop] at hj; have := hll.out; omega)
        have hceI : (cap : Int) = (i : Int) + 1 := by omega
        have hh2 := Lib.hid (show RdW w (.slice (some ⟨b, o, none⟩) ws.length (i + 1)) ws by rw [← hce]; exact hh.out)
        go_wp2_with fail
        go_region_held3 (fun w' => Kp W.heap.size W w')
          (first
            | exact (Kp.start hN).drew
            | exact (Kp.start hN).drew.alloc _
            | exact ((Kp.start hN).drew.alloc _).grown hg2 (fun g hgg => ho1.out.base g hgg)
            | exact (((Kp.start hN).drew.alloc _).grown hgx.out (fun g hgg => ho1.out.base g hgg)).grown hg3 (fun g hgg => ho2.out.base g hgg))
          (first
            | (rw [if_pos (by rfl)]; refine wp_appW (.tmp 51) (.tmp 54) rfl W.heap.size (.slice (some ⟨W.heap.size, 0, none⟩) 0 0) [] (l.take i) (some ⟨b, o, none⟩) (i + 1) rfl ho1.out (by rw [ht1.out]; rfl) (hs1.out.ext hE1.out) (hgd1.out.ext hE1.out) (by rw [ht1.out]; simp; omega) (by simp [World.drew]) (.inr ⟨_, _, rfl⟩) ?_; intro A2 cap2 w2 ho2 hg2; replace ho2 := Lib.hid ho2; have hE2 := Lib.hid (ho1.out.extGrown hE1.out (Nat.le_refl _) hg2); have hgx := Lib.hid hg2)
            | (rw [if_pos (by rfl)]; refine wp_appW (.tmp 55) (.tmp 59) rfl W.heap.size (.slice A2 (0 + (l.take i).length) cap2) ([] ++ l.take i) (l.drop (i + 1)) (some ⟨b, o, none⟩) 0 rfl ho2.out (by rw [ht2.out]; rfl) (hs2.out.ext hE2.out) (hgd2.out.ext hE2.out) (by rw [List.length_append, ht1.out, ht2.out]; simp; omega) hE2.out.size (.inr ⟨_, _, rfl⟩) ?_; intro A3 cap3 w3 ho3 hg3))
      rotate_left
      focus
        have hs2 := Lib.hid (srcW_drop (hsrc.out.ext hW.out) (i + 1))
        have hceI : ¬ (cap : Int) = (i : Int) + 1 := by omega
        have hh2 := hh
        go_wp2_with fail
        go_region_held3 (fun w' => Kp W.heap.size W w')
          (first
            | exact (Kp.start hN).drew
            | exact (Kp.start hN).drew.alloc _
            | exact ((Kp.start hN).drew.alloc _).grown hg2 (fun g hgg => ho1.out.base g hgg)
            | exact (((Kp.start hN).drew.alloc _).grown hgx.out (fun g hgg => ho1.out.base g hgg)).grown hg3 (fun g hgg => ho2.out.base g hgg))
          (first
            | (rw [if_pos (by rfl)]; refine wp_appW (.tmp 51) (.tmp 54) rfl W.heap.size (.slice (some ⟨W.heap.size, 0, none⟩) 0 0) [] (l.take i) (some ⟨b, o, none⟩) cap rfl ho1.out (by rw [ht1.out]; rfl) (hs1.out.ext hE1.out) (hgd1.out.ext hE1.out) (by rw [ht1.out]; simp; omega) (by simp [World.drew]) (.inr ⟨_, _, rfl⟩) ?_; intro A2 cap2 w2 ho2 hg2; replace ho2 := Lib.hid ho2; have hE2 := Lib.hid (ho1.out.extGrown hE1.out (Nat.le_refl _) hg2); have hgx := Lib.hid hg2)
            | (rw [if_pos (by rfl)]; refine wp_appW (.tmp 55) (.tmp 59) rfl W.heap.size (.slice A2 (0 + (l.take i).length) cap2) ([] ++ l.take i) (l.drop (i + 1)) (some ⟨b, o + (i + 1) * 2, none⟩) (cap - (i + 1)) rfl ho2.out (by rw [ht2.out]; rfl) (hs2.out.ext hE2.out) (hgd2.out.ext hE2.out) (by rw [List.length_append, ht1.out, ht2.out]; simp; omega) hE2.out.size (.inr ⟨_, _, rfl⟩) ?_; intro A3 cap3 w3 ho3 hg3))
      all_goals
        have hE3 := Lib.hid (ho2.out.extGrown hE2.out (Nat.le_refl _) hg3)
        have hF := Lib.hid (show RdW w3 (.slice A3 (min i l.length + (l.length - (i + 1))) cap3) (ws.eraseIdx i) by
          have hgg : GoodW w3 (([] ++ l.take i) ++ l.drop (i + 1)) := fun x hx => by
            refine (hgood.out.ext (hW.out.trans hE3.out)) x ?_
            rw [List.nil_append] at hx
            rcases List.mem_append.1 hx with h | h
            · exact List.mem_of_mem_take h
            · exact List.mem_of_mem_drop h
          have h1 := ho3.rdW hgg
          have e1 : (([] ++ l.take i) ++ l.drop (i + 1)).map (fun x : EW => x.1) = ws.eraseIdx i := by
            rw [List.nil_append, ← hl.out, List.eraseIdx_eq_take_drop_succ]; simp [List.map_take, List.map_drop]
          have e2 : ([] ++ l.take i).length + (l.drop (i + 1)).length = min i l.length + (l.length - (i + 1)) := by simp
          rw [e1, e2] at h1
          exact h1)
        have hXV := Lib.hid (hW.out.trans hE3.out)
        have hRV := Lib.hid (hRW.out.ext hE3.out)
        clear hgx hg3 hg2 ho3 ho2 ho1 hs1 hs2 hgd1 hgd2 ht1 ht2 hE1 hE2 hN hRW hW hE3 hceI hce j0 j1 j2 j3 j4 j5 j6 j7
        obtain ⟨V, rfl⟩ : ∃ V : World, V = w3 := ⟨_, rfl⟩
        have hN : V.heap.size ≤ V.heap.size := Nat.le_refl _
        have j0 : (0 : Int) ≤ (k : Int) := by omega
        have j1 : (k : Int) ≤ (capB : Int) := by omega
        have j2 : IntKind.i64.wrap ((k : Int) + 1) = (k : Int) + 1 := IntWalk.i64_in _ (by omega)
        have j3 : (0 : Int) ≤ (k : Int) + 1 := by omega
        have j4 : (k : Int) + 1 ≤ (needs.length : Int) := by omega
        have j5 : ((k : Int) + 1).toNat = k + 1 := by omega
        have j6 : (k : Int) + 1 ≤ (capB : Int) := by omega
        have j7 : (k : Int) ≤ (k : Int) + 1 := by omega
        have ht1 := Lib.hid (show (needs.take k).length = k by rw [List.length_take]; omega)
        have ht2 := Lib.hid (show (needs.drop (k + 1)).length = needs.length - (k + 1) by rw [List.length_drop])
        have hE1 := Lib.hid (show Ext V (V.drew.alloc (.cells #[] 3)) from (Ext.refl _).drew.alloc _)
        have ho1 := Lib.hid (show OwnL .i64 3 V.heap.size (V.drew.alloc (.cells #[] 3)) (.slice (some ⟨V.heap.size, 0, none⟩) 0 0) [] from ⟨rfl, .inr ⟨V.heap.size, 0, #[], rfl, Nat.le_refl _, Blk.new V.drew 3 #[], Nat.le_refl _, by unfold maxLen; omega, rfl, rfl⟩⟩)
        obtain ⟨c, p, hB, _⟩ := hd.out 0 hn0
        subst hB
        have hs1 := Lib.hid (show ∀ V', Ext V V' → ∀ j (h : j < (needs.take k).length), ∃ b o, (some ⟨c, p, none⟩ : Option Addr) = some ⟨b, o, none⟩ ∧ V'.cell? ⟨b, o + j, none⟩ = some (.int .i64 (needs.take k)[j]) from fun V' hV j hj => by
          rw [List.length_take] at hj
          obtain ⟨b', o', e, hc⟩ := hd.out j (by omega)
          exact ⟨b', o', e, by rw [List.getElem_take]; exact hV.cell (hXV.out.cell hc)⟩)
        have hs3 := Lib.hid (show ∀ V', Ext V V' → ∀ j (h : j < (needs.drop (k + 1)).length), ∃ b o, (some ⟨c, p + (k + 1), none⟩ : Option Addr) = some ⟨b, o, none⟩ ∧ V'.cell? ⟨b, o + j, none⟩ = some (.int .i64 (needs.drop (k + 1))[j]) from fun V' hV j hj => by
          rw [List.length_drop] at hj
          obtain ⟨b', o', e, hc⟩ := hd.out (k + 1 + j) (by omega)
          obtain ⟨rfl, rfl⟩ : c = b' ∧ p = o' := by simpa using e
          exact ⟨c, _, rfl, by rw [List.getElem_drop, Nat.add_assoc]; exact hV.cell (hXV.out.cell hc)⟩)
        rcases Decidable.em (capB = k + 1) with hce | hce
        focus
          have hs2 := Lib.hid (show ∀ V', Ext V V' → ∀ j (h : j < (needs.drop (k + 1)).length), ∃ b o, (some ⟨c, p, none⟩ : Option Addr) = some ⟨b, o, none⟩ ∧ V'.cell? ⟨b, o + j, none⟩ = some (.int .i64 (needs.drop (k + 1))[j]) from fun V' hV j hj => by rw [List.length_drop] at hj; omega)
          have hceI : (capB : Int) = (k : Int) + 1 := by omega
          have gg2 := Lib.hid (show RdI w (.slice (some ⟨c, p, none⟩) needs.length (k + 1)) needs by rw [← hce]; exact gg.out)
          go_wp2_with fail
          go_region_held3 (fun w' => Kp V.heap.size V w')
            (first
              | exact (Kp.start hN).drew
              | exact (Kp.start hN).drew.alloc _
              | exact ((Kp.start hN).drew.alloc _).grown hg2 (fun g hgg => ho1.out.base g hgg)
              | exact (((Kp.start hN).drew.alloc _).grown hgx.out (fun g hgg => ho1.out.base g hgg)).grown hg3 (fun g hgg => ho2.out.base g hgg))
            (first
              | (rw [if_pos (by rfl)]; refine wp_appL (.tmp 61) (.tmp 64) rfl V.heap.size (.slice (some ⟨V.heap.size, 0, none⟩) 0 0) [] (needs.take k) (some ⟨c, p, none⟩) (k + 1) rfl ho1.out (by rw [ht1.out]; rfl) (fun j h => hs1.out _ hE1.out j h) (by rw [ht1.out]; simp; omega) (by simp [World.drew]) ?_; intro A2 cap2 w2 ho2 hg2; replace ho2 := Lib.hid ho2; have hE2 := Lib.hid (ho1.out.extGrown hE1.out (Nat.le_refl _) hg2); have hgx := Lib.hid hg2)
              | (rw [if_pos (by rfl)]; refine wp_appL (.tmp 65) (.tmp 69) rfl V.heap.size (.slice A2 (0 + (needs.take k).length) cap2) ([] ++ needs.take k) (needs.drop (k + 1)) (some ⟨c, p, none⟩) 0 rfl ho2.out (by rw [ht2.out]; rfl) (fun j h => hs2.out _ hE2.out j h) (by rw [List.length_append, ht1.out, ht2.out]; simp; omega) hE2.out.size ?_; intro A3 cap3 w4 ho3 hg3))

        rotate_left
        focus
          have hs2 := hs3
          have hceI : ¬ (capB : Int) = (k : Int) + 1 := by omega
          have gg2 := gg
          go_wp2_with fail
          go_region_held3 (fun w' => Kp V.heap.size V w')
            (first
              | exact (Kp.start hN).drew
              | exact (Kp.start hN).drew.alloc _
              | exact ((Kp.start hN).drew.alloc _).grown hg2 (fun g hgg => ho1.out.base g hgg)
              | exact (((Kp.start hN).drew.alloc _).grown hgx.out (fun g hgg => ho1.out.base g hgg)).grown hg3 (fun g hgg => ho2.out.base g hgg))
            (first
              | (rw [if_pos (by rfl)]; refine wp_appL (.tmp 61) (.tmp 64) rfl V.heap.size (.slice (some ⟨V.heap.size, 0, none⟩) 0 0) [] (needs.take k) (some ⟨c, p, none⟩) capB rfl ho1.out (by rw [ht1.out]; rfl) (fun j h => hs1.out _ hE1.out j h) (by rw [ht1.out]; simp; omega) (by simp [World.drew]) ?_; intro A2 cap2 w2 ho2 hg2; replace ho2 := Lib.hid ho2; have hE2 := Lib.hid (ho1.out.extGrown hE1.out (Nat.le_refl _) hg2); have hgx := Lib.hid hg2)
              | (rw [if_pos (by rfl)]; refine wp_appL (.tmp 65) (.tmp 69) rfl V.heap.size (.slice A2 (0 + (needs.take k).length) cap2) ([] ++ needs.take k) (needs.drop (k + 1)) (some ⟨c, p + (k + 1), none⟩) (capB - (k + 1)) rfl ho2.out (by rw [ht2.out]; rfl) (fun j h => hs2.out _ hE2.out j h) (by rw [List.length_append, ht1.out, ht2.out]; simp; omega) hE2.out.size ?_; intro A3 cap3 w4 ho3 hg3))

        all_goals
          have hE3 := Lib.hid (ho2.out.extGrown hE2.out (Nat.le_refl _) hg3)
          have hG := Lib.hid (show RdI w4 (.slice A3 (min k needs.length + (needs.length - (k + 1))) cap3) (needs.eraseIdx k) by
            have h1 := ho3.rdI
            have e1 : ([] ++ needs.take k) ++ needs.drop (k + 1) = needs.eraseIdx k := by
              rw [List.nil_append, List.eraseIdx_eq_take_drop_succ]
            have e2 : ([] ++ needs.take k).length + (needs.drop (k + 1)).length = min k needs.length + (needs.length - (k + 1)) := by simp
            rw [e1, e2] at h1
            exact h1)
          have hX4 := Lib.hid (hXV.out.trans hE3.out)
          have hF4 := Lib.hid (hF.out.ext hE3.out)
          have hR4 := Lib.hid (hRV.out.ext hE3.out)
          clear hgx hg3 hg2 ho3 ho2 ho1 hs1 hs2 hs3 ht1 ht2 hE1 hE2 hN hRV hE3 hceI hce j0 j1 j2 j3 j4 j5 j6 j7 hF hXV
          go_wp2_with fail
          refine (c_matchAny _ _ (ws.eraseIdx i) needs _ hF4.out (gg2.out.ext hX4.out)).mono ?_
          rintro e w5 ⟨r5, rfl, hR5, _, hE5⟩
          rw [ask_fewer h0.out i hi]
          replace hR5 := Lib.hid hR5
          replace hR4 := Lib.hid (hR4.out.ext hE5)
          replace hG := Lib.hid (hG.out.ext hE5)
          replace hE5 := Lib.hid (hX4.out.trans hE5)
          go_wp2_with fail
          refine (c_matchAny _ _ ws (needs.eraseIdx k) _ (hh2.out.ext hE5.out) hG.out).mono ?_
          rintro e w6 ⟨r6, rfl, hR6, _, hE6⟩
          rw [ask_less h0.out k hk]
          replace hR6 := Lib.hid hR6
          replace hR4 := Lib.hid (hR4.out.ext hE6)
          replace hR5 := Lib.hid (hR5.out.ext hE6)
          replace hE6 := Lib.hid (hE5.out.trans hE6)
          obtain ⟨f1, f2⟩ := fills_fewer h0.out i hi
          obtain ⟨f3, f4⟩ := fills_less h0.out k hk
          have f5 : filledI (mtL ws needs) ≤ 20 := by
            have e1 := filledI_le (mtL ws needs)
            have e2 := mtL_len h0.out
            omega
          have f6 : ((filledI (mtL ws needs) : Nat) : Int) - 1 ≤ ((filledI (mtL (ws.eraseIdx i) needs) : Nat) : Int) := by omega
          have f7 : ((filledI (mtL ws needs) : Nat) : Int) - 1 ≤ ((filledI (mtL ws (needs.eraseIdx k)) : Nat) : Int) := by omega
          clear hF4 hG hX4 hE5
          generalize mtL (ws.eraseIdx i) needs = X5 at *
          generalize mtL ws (needs.eraseIdx k) = X6 at *
          generalize mtL ws needs = X4 at *
          go_wp2_with (first
            | (go_at_call 22; (with_reducible refine (c_filled r X4 _ hR4.out).mono ?_); rintro e w' ⟨rfl, rfl⟩)
            | (go_at_call 22; (with_reducible refine (c_filled r5 X5 _ hR5.out).mono ?_); rintro e w' ⟨rfl, rfl⟩)
            | (go_at_call 22; (with_reducible refine (c_filled r6 X6 _ hR6.out).mono ?_); rintro e w' ⟨rfl, rfl⟩))
          refine (c_alive _).mono ?_
          rintro e w7 ⟨rfl, he⟩
          replace he := Lib.hid he
          go_wp2_with fail
          go_ret
          exact ⟨rfl, hE6.out.trans he.out⟩
    · by_cases h1 : askE ws needs = 0
      · have hE0 : (askE ws needs != 0) = false := by simp [h1]
        by_cases h2 : ws.length = 0
        · have hw1 : ((ws.length : Int) == 0) = true := by rw [h2]; rfl
          clear h0 h2
          go_wp2_with fail
          refine (c_alive _).mono ?_
          rintro e w7 ⟨rfl, he⟩
          replace he := Lib.hid he
          go_wp2_with fail
          go_ret
          exact ⟨rfl, hE.out.trans he.out⟩
        · have hw1 : ((ws.length : Int) == 0) = false := beq_eq_false_iff_ne.2 (by omega)
          have h3 : needs.length = 0 := by omega
          have hn1 : ((needs.length : Int) == 0) = true := by rw [h3]; rfl
          clear h0 h2 h3
          go_wp2_with fail
          refine (c_alive _).mono ?_
          rintro e w7 ⟨rfl, he⟩
          replace he := Lib.hid he
          go_wp2_with fail
          go_ret
          exact ⟨rfl, hE.out.trans he.out⟩
      · have hE0 : (askE ws needs != 0) = true := by simp [h1]
        clear h0 h1
        go_wp2_with fail
        refine (c_alive _).mono ?_
        rintro e w7 ⟨rfl, he⟩
        replace he := Lib.hid he
        go_wp2_with fail
        go_ret
        exact ⟨rfl, hE.out.trans he.out⟩
end Go.Proofs.Ythfcllefmeoicaa
