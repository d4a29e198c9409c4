/- Print of the reference. -/
import Derived.Test.YtphaigncbenmmaaGreatDoorPri
import Derived.Test.YtphaigncbenmmaaGreatDoorRck
import Derived.Deep.RegionHeld3
import Derived.Deep.DrawnRows
import Derived.Test.YtphaigncbenmmaaGreatDoorApp
namespace Go.Proofs.YtphaigncbenmmaaGreatDoor
open Go Go.RowKit
attribute [local go_sem ↓] Go.wp_at_zero Go.wp_at_succ

theorem lt_alloc_drew {w : World} {ob : Obj} {g : Nat} (h : g < w.heap.size) : g < (w.alloc ob).drew.heap.size := by
  show g < (w.alloc ob).heap.size
  rw [size_alloc]; omega

theorem has_snoc (l : List Ro) (i : B) (k : Nat) (h : k < l.length) : has (l.take (k + 1)) i = (has (l.take k) i || decide (l[k].id = i)) := by
  unfold has
  rw [take_snoc l k h, List.any_append]; simp
theorem has_mem (l : List Ro) (i : B) (k n : Nat) (h : k < l.length) (hk : k < n) (he : l[k].id = i) : has (l.take n) i = true := by
  unfold has
  rw [List.any_eq_true]
  exact ⟨l[k], by rw [List.mem_take_iff_getElem]; exact ⟨k, by omega, rfl⟩, by simp [he]⟩

set_option maxHeartbeats 1000000 in
theorem c_named (v : Value) (l : List Ro) (n : Nat) (i : ByteArray) (w : World) (h : RdR w v l) (hn : n ≤ l.length) :
    Calls Tryz.prog 32 #[v, .int .i64 (n : Nat), .string i] w fun e w' => e = .returned (.bool (has (l.take n) (bs i))) ∧ w' = w := by
  obtain ⟨A, c, rfl, hcap, hmax, hc⟩ := h
  unfold maxLen at hmax
  replace hc := Lib.hid hc
  go_enter Tryz.func32, Tryz.ntmps32
  go_wp2
  go_loop [7] (fun x => ∃ k : Nat, k ≤ n ∧ x = .int .i64 (k : Nat) ∧ has (l.take k) (bs i) = false) (fun x => n - (intOf x).toNat)
  case atStart => exact ⟨0, Nat.zero_le _, rfl, rfl⟩
  case round =>
    obtain ⟨k, hk, rfl, hup⟩ := hrel
    by_cases hlt : k < n
    · have hkl : k < l.length := by omega
      obtain ⟨b, o, fv, rfl, hf, c0, c1, c2, c3, c4, c5, c6⟩ := hc.out k hkl
      have hsn := Lib.hid (has_snoc l (bs i) k hkl)
      have hmm := Lib.hid (fun h => has_mem l (bs i) k n hkl hlt h)
      have hse := Lib.hid (str_eq (ofB l[k].id) i)
      have hofb : (ofB l[k].id = i) ↔ (l[k].id = bs i) := ⟨fun h => by rw [← h, bs_ofB], fun h => by rw [h, ofB_bs]⟩
      replace hup := Lib.hid hup
      replace hf := Lib.hid hf
      have hki : (k : Int) < n := by omega
      have hkl2 : (k : Int) < l.length := by omega
      by_cases he : l[k].id = bs i
      · have hh := Lib.hid (hmm.out he)
        have hbt : ((ofB l[k].id).toList == i.toList) = true := by rw [hse.out]; exact decide_eq_true (hofb.2 he)
        replace he := Lib.hid he
        replace hofb := Lib.hid hofb
        go_wp2
        go_ret
        exact ⟨ret_bool hh.out.symm, rfl⟩
      · have hbt : ((ofB l[k].id).toList == i.toList) = false := by rw [hse.out]; exact decide_eq_false (fun h => he (hofb.1 h))
        have hup2 := Lib.hid (show has (l.take (k + 1)) (bs i) = false by rw [hsn.out, hup.out]; simp [he])
        replace he := Lib.hid he
        replace hofb := Lib.hid hofb
        go_wp2
        go_round
        case rel => exact ⟨k + 1, by omega, by go_num, hup2.out⟩
        case measure => simp [intOf]; omega
    · have hkn : k = n := by omega
      have hki : ¬ (k : Int) < n := by omega
      subst hkn
      replace hup := Lib.hid hup
      go_wp2
      go_ret
      exact ⟨ret_bool hup.out.symm, rfl⟩

set_option maxHeartbeats 1000000 in
theorem c_rnumbers (v : Value) (xs : List Int) (w : World) (h : RdI w v xs) (hr : ∀ n ∈ xs, -1048576 ≤ n ∧ n ≤ 1048576) (h7 : ∀ n ∈ xs, (Lib.itoa n).length ≤ 7) (hl : xs.length ≤ 10) (ht : Tab w) :
    Calls Tryz.prog 53 #[v] w fun e w' => e = .returned (.string (ofB (sp xs))) ∧ Ext w w' := by
  obtain ⟨A, c, rfl, hcap, hmax, hc⟩ := h
  unfold maxLen at hmax
  replace hc := Lib.hid hc
  replace ht := Lib.hid ht
  replace hr := Lib.hid hr
  replace h7 := Lib.hid h7
  go_enter Tryz.func53, Tryz.ntmps53
  go_wp2
  go_loopw [3, 4] (fun s i wr => ∃ k : Nat, k ≤ xs.length ∧ s = .string (ofB (sp (xs.take k))) ∧ i = .int .i64 (k : Nat) ∧ Ext w wr) (fun _ i _ => xs.length - (intOf i).toNat)
  case atStart => exact ⟨0, Nat.zero_le _, rfl, rfl, Ext.refl _⟩
  case round =>
    obtain ⟨k, hk, rfl, rfl, hX⟩ := hrel
    have hsl := sp_take_len xs k h7.out
    by_cases hlt : k < xs.length
    · obtain ⟨b, o, rfl, c0⟩ := hc.out k hlt
      replace c0 := hX.cell c0
      have hsn := Lib.hid (sp_snoc xs k hlt)
      obtain ⟨r1, r2⟩ := hr.out _ (List.getElem_mem hlt)
      have r3 := h7.out _ (List.getElem_mem hlt)
      obtain ⟨n, hn⟩ : ∃ n, n = xs[k] := ⟨_, rfl⟩
      rw [← hn] at c0 hsn r1 r2 r3
      clear hn
      obtain ⟨T, hT⟩ : ∃ T, T = ofB (sp (xs.take k)) := ⟨_, rfl⟩
      have hTs : T.size ≤ 80 := by rw [hT, ofB_size]; omega
      rw [← hT]
      have hfin := Lib.hid (show T ++ ⟨#[32]⟩ ++ ofB (Lib.itoa n) = ofB (sp (xs.take (k + 1))) by
        rw [hsn.out, hT, show (⟨#[32]⟩ : ByteArray) = ofB [32] from rfl, ofB_app, ofB_app]; simp)
      clear hT
      replace hX := Lib.hid hX
      have hki : (k : Int) < xs.length := by omega
      go_wp2_with fail
      refine (l_itoa n (by omega) (by omega) _ (ht.out.ext hX.out)).mono ?_
      rintro e w1 ⟨rfl, hx⟩
      have hX1 := Lib.hid (hX.out.trans hx)
      clear hx
      have hzn : (ofB (Lib.itoa n)).size ≤ 7 := r3
      go_wp2
      go_roundw
      case rel => exact ⟨k + 1, by omega, by rw [← hfin.out], by go_num, hX1.out⟩
      case measure => simp [intOf]; omega
    · have hall := Lib.hid (sp_all xs k hlt)
      have hki : ¬ (k : Int) < xs.length := by omega
      replace hX := Lib.hid hX
      rw [hall.out]
      go_wp2
      go_ret
      exact ⟨rfl, hX.out⟩

set_option maxRecDepth 20000 in
set_option maxHeartbeats 4000000 in
theorem c_rtext (r : Ro) (fv : Value) (w : World) (h : RdF w fv r.fl) (hv : Valid r) (ht : Tab w) : Calls Tryz.prog 36 #[roV r fv] w fun e w' => e = .returned (.string (ofB (lineT r))) ∧ Ext w w' := by
  obtain ⟨A, c, rfl, hcap, hmax, h64, hc⟩ := h
  unfold maxLen at hmax
  replace hc := Lib.hid hc
  replace ht := Lib.hid ht
  have hid8 : r.id.length ≤ 8 := by
    have := hv.id
    simp only [idOk, Bool.and_eq_true, decide_eq_true_eq] at this
    omega
  have hi8 : (ofB r.id).size ≤ 8 := hid8
  clear h64
  obtain ⟨wB, hwB⟩ : ∃ wB, wB = w.alloc (.cells (roC r (.slice A r.fl.length c)).toArray 26) := ⟨_, rfl⟩
  have hb := show Blk wB w.heap.size 26 (roC r (.slice A r.fl.length c)).toArray from hwB ▸ Blk.new w 26 _
  have hEB := Lib.hid (show Ext w wB from hwB ▸ (Ext.refl w).alloc _)
  obtain ⟨q0, q1, q2, q3, q4, q5, q6⟩ := hb.parts7
  have hlt := hb.lt
  replace hb := Lib.hid hb
  unfold roC at hwB
  unfold roV
  have hspl : (ofB (sp (headN r))).size ≤ 40 := by
    have := sp_length _ hv.short.1
    rw [ofB_size]
    simpa [headN] using this
  have z5 : ¬ 9223372036854775807 < 5 + (ofB r.id).size := by omega
  have z6 : ¬ 9223372036854775807 < 5 + (ofB r.id).size + (ofB (sp (headN r))).size := by omega
  go_enter Tryz.func36, Tryz.ntmps36
  go_wp2_with fail
  rw [← hwB]
  clear hwB
  refine wp_region_held_drew (S := fun w' => ∀ o, w'.cell? ⟨w.heap.size, o, none⟩ = wB.cell? ⟨w.heap.size, o, none⟩) (by kernel_rfl) (fun o => rfl) (fun hHeld => ?_)
  refine wpAnyH_take (i := 0) (oi := ⟨some 6, _, _, _, _, _⟩) (v := ?_) rfl (by kernel_rfl) (by kernel_rfl) (by kernel_rfl) (fun _ _ _ h => h) (Or.inl ⟨by rfl, ?_⟩) hHeld ?_
  rotate_left
  · intro w hSw; go_simp; try with_reducible rfl
  try simp only [Act.put, List.setIfInBounds_toArray, List.set_cons_zero, List.set_cons_succ]
  refine wpAnyH_take (i := 1) (oi := ⟨some 7, _, _, _, _, _⟩) (v := ?_) rfl (by kernel_rfl) (by kernel_rfl) (by kernel_rfl) (fun _ _ _ h => h) (Or.inl ⟨by rfl, ?_⟩) hHeld ?_
  rotate_left
  · intro w hSw; go_simp; try with_reducible rfl
  try simp only [Act.put, List.setIfInBounds_toArray, List.set_cons_zero, List.set_cons_succ]
  refine wpAnyH_take (i := 2) (oi := ⟨some 8, _, _, _, _, _⟩) (v := ?_) rfl (by kernel_rfl) (by kernel_rfl) (by kernel_rfl) (fun _ _ _ h => h) (Or.inl ⟨by rfl, ?_⟩) hHeld ?_
  rotate_left
  · intro w hSw; go_simp; try with_reducible rfl
  try simp only [Act.put, List.setIfInBounds_toArray, List.set_cons_zero, List.set_cons_succ]
  refine wpAnyH_take (i := 3) (oi := ⟨some 9, _, _, _, _, _⟩) (v := ?_) rfl (by kernel_rfl) (by kernel_rfl) (by kernel_rfl) (fun _ _ _ h => h) (Or.inl ⟨by rfl, ?_⟩) hHeld ?_
  rotate_left
  · intro w hSw; go_simp; try with_reducible rfl
  try simp only [Act.put, List.setIfInBounds_toArray, List.set_cons_zero, List.set_cons_succ]
  refine wpAnyH_take (i := 4) (oi := ⟨some 10, _, _, _, _, _⟩) (v := ?_) rfl (by kernel_rfl) (by kernel_rfl) (by kernel_rfl) (fun _ _ _ h => h) (Or.inl ⟨by rfl, ?_⟩) hHeld ?_
  rotate_left
  · intro w hSw; go_simp; try with_reducible rfl
  try simp only [Act.put, List.setIfInBounds_toArray, List.set_cons_zero, List.set_cons_succ]
  refine wpAnyH_take (i := 5) (oi := ⟨some 11, _, _, _, _, _⟩) (v := ?_) rfl (by kernel_rfl) (by kernel_rfl) (by kernel_rfl) (fun _ _ _ h => h) (Or.inl ⟨by rfl, ?_⟩) hHeld ?_
  rotate_left
  · intro w hSw; go_simp; try with_reducible rfl
  try simp only [Act.put, List.setIfInBounds_toArray, List.set_cons_zero, List.set_cons_succ]
  refine wpAnyH_take (i := 6) (oi := ⟨some 12, _, _, _, _, _⟩) (v := ?_) rfl (by kernel_rfl) (by kernel_rfl) (by kernel_rfl) (fun _ _ _ h => h) (Or.inl ⟨by rfl, ?_⟩) hHeld ?_
  rotate_left
  · intro w hSw; go_simp; try with_reducible rfl
  try simp only [Act.put, List.setIfInBounds_toArray, List.set_cons_zero, List.set_cons_succ]
  refine wpAnyH_take (i := 7) (oi := ⟨some 13, _, _, _, _, _⟩) (v := ?_) rfl (by kernel_rfl) (by kernel_rfl) (by kernel_rfl) (fun _ _ _ h => h) (Or.inl ⟨by rfl, ?_⟩) hHeld ?_
  rotate_left
  · intro w hSw; go_simp; try with_reducible rfl
  try simp only [Act.put, List.setIfInBounds_toArray, List.set_cons_zero, List.set_cons_succ]
  refine wpAnyH_take (i := 8) (oi := ⟨some 14, _, _, _, _, _⟩) (v := ?_) rfl (by kernel_rfl) (by kernel_rfl) (by kernel_rfl) (fun _ _ _ h => h) (Or.inl ⟨by rfl, ?_⟩) hHeld ?_
  rotate_left
  · intro w hSw; go_simp; try with_reducible rfl
  try simp only [Act.put, List.setIfInBounds_toArray, List.set_cons_zero, List.set_cons_succ]
  refine wpAnyH_take (i := 9) (oi := ⟨some 15, _, _, _, _, _⟩) (v := ?_) rfl (by kernel_rfl) (by kernel_rfl) (by kernel_rfl) (fun _ _ _ h => h) (Or.inl ⟨by rfl, ?_⟩) hHeld ?_
  rotate_left
  · intro w hSw; go_simp; try with_reducible rfl
  try simp only [Act.put, List.setIfInBounds_toArray, List.set_cons_zero, List.set_cons_succ]
  refine wpAnyH_take (i := 10) (oi := ⟨some 16, _, _, _, _, _⟩) (v := ?_) rfl (by kernel_rfl) (by kernel_rfl) (by kernel_rfl) (fun _ _ _ h => h) (Or.inl ⟨by rfl, ?_⟩) hHeld ?_
  rotate_left
  · intro w hSw; go_simp; try with_reducible rfl
  try simp only [Act.put, List.setIfInBounds_toArray, List.set_cons_zero, List.set_cons_succ]
  refine wpAnyH_take (i := 11) (oi := ⟨some 17, _, _, _, _, _⟩) (v := ?_) rfl (by kernel_rfl) (by kernel_rfl) (by kernel_rfl) (fun _ _ _ h => h) (Or.inl ⟨by rfl, ?_⟩) hHeld ?_
  rotate_left
  · intro w hSw; go_simp; try with_reducible rfl
  try simp only [Act.put, List.setIfInBounds_toArray, List.set_cons_zero, List.set_cons_succ]
  refine wpAnyH_take (i := 12) (oi := ⟨some 18, _, _, _, _, _⟩) (v := ?_) rfl (by kernel_rfl) (by kernel_rfl) (by kernel_rfl) (fun _ _ _ h => h) (Or.inl ⟨by rfl, ?_⟩) hHeld ?_
  rotate_left
  · intro w hSw; go_simp; try with_reducible rfl
  try simp only [Act.put, List.setIfInBounds_toArray, List.set_cons_zero, List.set_cons_succ]
  refine wpAnyH_take (i := 13) (oi := ⟨some 19, _, _, _, _, _⟩) (v := ?_) rfl (by kernel_rfl) (by kernel_rfl) (by kernel_rfl) (fun _ _ _ h => h) (Or.inl ⟨by rfl, ?_⟩) hHeld ?_
  rotate_left
  · intro w hSw; go_simp; try with_reducible rfl
  try simp only [Act.put, List.setIfInBounds_toArray, List.set_cons_zero, List.set_cons_succ]
  refine wpAnyH_take (i := 14) (oi := ⟨some 20, _, _, _, _, _⟩) (v := ?_) rfl (by kernel_rfl) (by kernel_rfl) (by kernel_rfl) (fun _ _ _ h => h) (Or.inl ⟨by rfl, ?_⟩) hHeld ?_
  rotate_left
  · intro w hSw; go_simp; try with_reducible rfl
  try simp only [Act.put, List.setIfInBounds_toArray, List.set_cons_zero, List.set_cons_succ]
  refine wpAnyH_take (i := 15) (oi := ⟨some 21, _, _, _, _, _⟩) (v := ?_) rfl (by kernel_rfl) (by kernel_rfl) (by kernel_rfl) (fun _ _ _ h => h) (Or.inl ⟨by rfl, ?_⟩) hHeld ?_
  rotate_left
  · intro w hSw; go_simp; try with_reducible rfl
  try simp only [Act.put, List.setIfInBounds_toArray, List.set_cons_zero, List.set_cons_succ]
  refine wpAnyH_ready (rs := [16]) (by kernel_rfl) (by simp) (AllReadyH.cons (o := ⟨some 22, _, _, _, _, _⟩) rfl (fun K hK => ?_) AllReadyH.nil)
  go_simp
  refine hK.out _ _ (fun o => alloc_keep hlt o) (fun hHeld => ?_)
  clear hK K
  try simp only [Act.put, List.setIfInBounds_toArray, List.set_cons_zero, List.set_cons_succ]
  refine wpAnyH_ready (rs := [17]) (by kernel_rfl) (by simp) (AllReadyH.cons (o := ⟨some 23, _, _, _, _, _⟩) rfl (fun K hK => ?_) AllReadyH.nil)
  go_simp
  refine (c_rnumbers _ (headN r) _ (rdI_five (Blk.new wB 3 _).drew) (headN_range hv) hv.short.1 (by simp [headN]) (ht.out.ext ((hEB.out.alloc _).drew))).mono ?_
  rintro e w2 ⟨rfl, he⟩
  go_wp2_with fail
  refine hK.out _ _ (fun o => (he.rules.1 _ o (lt_alloc_drew hlt)).trans (alloc_keep hlt o)) (fun hHeld => ?_)
  clear hK K
  try simp only [Act.put, List.setIfInBounds_toArray, List.set_cons_zero, List.set_cons_succ]
  refine wpAnyH_take (i := 18) (oi := ⟨some 24, _, _, _, _, _⟩) (v := ?_) rfl (by kernel_rfl) (by kernel_rfl) (by kernel_rfl) (fun _ _ _ h => h) (Or.inl ⟨by rfl, ?_⟩) hHeld ?_
  rotate_left
  · intro w hSw; go_simp; try with_reducible rfl
  try simp only [Act.put, List.setIfInBounds_toArray, List.set_cons_zero, List.set_cons_succ]
  refine wpAnyH_take (i := 19) (oi := ⟨some 3, _, _, _, _, _⟩) (v := ?_) rfl (by kernel_rfl) (by kernel_rfl) (by kernel_rfl) (fun _ _ _ h => h) (Or.inl ⟨by rfl, ?_⟩) hHeld ?_
  rotate_left
  · intro w hSw; go_simp; try with_reducible rfl
  try simp only [Act.put, List.setIfInBounds_toArray, List.set_cons_zero, List.set_cons_succ]
  refine wpAnyH_done (by kernel_rfl) ?_ _
  have hx2 := Lib.hid (((Ext.refl wB).alloc (.cells (numA (headN r)) 3)).drew.trans he)
  have hE2 := Lib.hid (hEB.out.trans hx2.out)
  have hT0 := Lib.hid (show ⟨#[114, 111, 108, 108, 32]⟩ ++ ofB r.id ++ ofB (sp (headN r)) = ofB (upT r 0) by
    rw [show (⟨#[114, 111, 108, 108, 32]⟩ : ByteArray) = ofB (Troll ++ [32]) from rfl, ofB_app, ofB_app, upT_zero]; simp)
  rw [hT0.out]
  clear hHeld q0 q1 q2 q3 q4 q5 q6 hlt he
  go_wp2
  go_loopw [3, 4] (fun s i wr => ∃ j : Nat, j ≤ r.fl.length ∧ s = .string (ofB (upT r j)) ∧ i = .int .i64 (j : Nat) ∧ Ext w2 wr) (fun _ i _ => r.fl.length - (intOf i).toNat)
  case atStart => exact ⟨0, Nat.zero_le _, rfl, rfl, Ext.refl _⟩
  case round =>
    obtain ⟨j, hj, rfl, rfl, hX⟩ := hrel
    have q6 : wr.cell? ⟨w.heap.size, 6, none⟩ = some (.slice A r.fl.length c) := ((hb.out.ext hx2.out).ext hX).cell 6
    have hltw := ((hb.out.ext hx2.out).ext hX).lt
    have hul := upT_len hv j
    by_cases hjl : j < r.fl.length
    · obtain ⟨b, o, rfl, c0, c1, c2, c3⟩ := hc.out j hjl
      have hsn := Lib.hid (upT_snoc r j hjl)
      have hrg := Lib.hid (flN_range hv (List.getElem_mem hjl))
      have hs7 := Lib.hid (hv.short.2 _ (List.getElem_mem hjl))
      obtain ⟨f, hf⟩ : ∃ f, f = r.fl[j] := ⟨_, rfl⟩
      rw [← hf] at c0 c1 c2 c3 hsn hrg hs7
      clear hf
      have hw := hE2.out.trans hX
      replace c0 := hw.cell c0
      replace c1 := hw.cell c1
      replace c2 := hw.cell c2
      replace c3 := hw.cell c3
      replace hw := Lib.hid hw
      replace hX := Lib.hid hX
      obtain ⟨T, hT⟩ : ∃ T, T = ofB (upT r j) := ⟨_, rfl⟩
      have hTs : T.size ≤ 793 := by rw [hT, ofB_size]; exact hul
      rw [← hT]
      have hfin := Lib.hid (show T ++ ⟨#[32, 102, 108, 97, 119]⟩ ++ ofB (sp (flN f)) = ofB (upT r (j + 1)) by
        rw [hsn.out, hT, show (⟨#[32, 102, 108, 97, 119]⟩ : ByteArray) = ofB (32 :: Tflaw) from rfl, ofB_app, ofB_app]; simp [flN])
      clear hT hul
      have hspf : (ofB (sp (flN f))).size ≤ 32 := by
        have := sp_length _ hs7.out
        rw [ofB_size]
        simpa [flN] using this
      have hji : (j : Int) < r.fl.length := by omega
      go_wp2_with fail
      refine (c_rnumbers _ (flN f) _ (rdI_four (Blk.at (by simp))) hrg.out hs7.out (by simp [flN]) (ht.out.ext ((hw.out.alloc _).alloc _))).mono ?_
      rintro e w3 ⟨rfl, hx⟩
      have hX3 := Lib.hid (((hX.out.alloc _).alloc _).trans hx)
      clear hx
      go_wp2
      go_roundw
      case rel => exact ⟨j + 1, by omega, by rw [← hfin.out], by go_num, hX3.out⟩
      case measure => simp [intOf]; omega
    · have hall := Lib.hid (upT_all r j hjl)
      have hji : ¬ (j : Int) < r.fl.length := by omega
      replace hX := Lib.hid hX
      rw [hall.out]
      go_wp2
      go_ret
      exact ⟨rfl, hE2.out.trans hX.out⟩

set_option maxRecDepth 20000 in
set_option maxHeartbeats 4000000 in
theorem c_rprint (l : List Ro) (v : Value) (w : World) (h : RdR w v l) (ht : Tab w) (hids : ∀ r ∈ l, r.id.length ≤ 30000) : Calls Tryz.prog 18 #[v] w (PriOut l w) := by
  have hrd := Lib.hid h
  obtain ⟨A, c, rfl, hcap, hmax, hc⟩ := h
  unfold maxLen at hmax
  replace hc := Lib.hid hc
  replace ht := Lib.hid ht
  replace hids := Lib.hid hids
  go_enter Tryz.func18, Tryz.ntmps18
  by_cases h20 : 20 < l.length
  · go_wp2
    go_ret2
    exact PriOut.mk (t := []) (by unfold print; rw [if_pos h20]) (Ext.refl w)
  have hpf := Lib.hid (print_few h20)
  go_wp2
  go_loopw [4, 5] (fun s i wr => ∃ k : Nat, k ≤ l.length ∧ s = .string (ofB (textT (l.take k))) ∧ i = .int .i64 (k : Nat) ∧ PriUp l k ∧ Ext w wr) (fun _ i _ => l.length - (intOf i).toNat)
  case atStart => exact ⟨0, Nat.zero_le _, rfl, rfl, PriUp.start l, Ext.refl _⟩
  case round =>
    obtain ⟨k, hk, rfl, rfl, hup, hX⟩ := hrel
    have hln := hup.len
    by_cases hlt : k < l.length
    · obtain ⟨b, o, fv, rfl, hf, c0, c1, c2, c3, c4, c5, c6⟩ := hc.out k hlt
      obtain ⟨Af, cf, rfl⟩ := hf.slice
      have hid := Lib.hid (hids.out _ (List.getElem_mem hlt))
      have hno := Lib.hid (fun h => hup.chk hlt h)
      have htw := Lib.hid (fun h1 h2 => hup.twice hlt h1 h2)
      have hnx := Lib.hid (fun h1 h2 => hup.next hlt h1 h2)
      have hsn := Lib.hid (textT_snoc hlt)
      obtain ⟨r, hr⟩ : ∃ r, r = l[k] := ⟨_, rfl⟩
      rw [← hr] at hf hid hno htw hnx hsn c0 c1 c2 c3 c4 c5 c6
      clear hr
      have hcw := Lib.hid (show w.cell? ⟨b, o + k * 7, none⟩ = some (.string (ofB r.id)) ∧ w.cell? ⟨b, o + k * 7 + 1, none⟩ = some (.int .i64 r.wid) ∧ w.cell? ⟨b, o + k * 7 + 2, none⟩ = some (.int .i64 r.len) ∧ w.cell? ⟨b, o + k * 7 + 3, none⟩ = some (.int .i64 r.tl) ∧ w.cell? ⟨b, o + k * 7 + 4, none⟩ = some (.int .i64 r.ta) ∧ w.cell? ⟨b, o + k * 7 + 5, none⟩ = some (.int .i64 r.tb) ∧ w.cell? ⟨b, o + k * 7 + 6, none⟩ = some (.slice Af r.fl.length cf) from ⟨c0, c1, c2, c3, c4, c5, c6⟩)
      replace c0 := hX.cell c0
      replace c1 := hX.cell c1
      replace c2 := hX.cell c2
      replace c3 := hX.cell c3
      replace c4 := hX.cell c4
      replace c5 := hX.cell c5
      replace c6 := hX.cell c6
      replace hf := Lib.hid hf
      replace hX := Lib.hid hX
      replace hup := Lib.hid hup
      have hki : (k : Int) < l.length := by omega
      have hc1' := Lib.hid (fun w h => c_rcheck r (.slice Af r.fl.length cf) w h hid.out)
      have hc2' := Lib.hid (fun w h hv ht => c_rtext r (.slice Af r.fl.length cf) w h hv ht)
      unfold roV at hc1' hc2'
      go_wp2_with fail
      refine (hc1'.out _ (hf.out.ext hX.out)).mono ?_
      rintro e w1 ⟨rfl, hx⟩
      have hX1 := Lib.hid (hX.out.trans hx)
      clear hx c0 c1 c2 c3 c4 c5 c6
      obtain ⟨c0, c1, c2, c3, c4, c5, c6⟩ := hcw.out
      replace c0 := hX1.out.cell c0
      replace c1 := hX1.out.cell c1
      replace c2 := hX1.out.cell c2
      replace c3 := hX1.out.cell c3
      replace c4 := hX1.out.cell c4
      replace c5 := hX1.out.cell c5
      replace c6 := hX1.out.cell c6
      by_cases hck : check r = 0
      rotate_left
      · have hn0 : (check r == 0) = false := by simp; exact hck
        have hq := Lib.hid (hno.out hck)
        replace hck := Lib.hid hck
        go_wp2
        go_ret2
        exact PriOut.mk (t := []) (hpf.out.trans hq.out) hX1.out
      · rw [hck]
        have hv := Lib.hid (check_ok hck)
        replace hck := Lib.hid hck
        go_wp2_with fail
        refine (c_named _ l k (ofB r.id) _ (hrd.out.ext hX1.out) hk).mono ?_
        rintro e w2 ⟨rfl, rfl⟩
        rw [bs_ofB]
        rcases hh : has (l.take k) r.id with _ | _
        rotate_left
        · have hq := Lib.hid (htw.out hck.out hh)
          replace hh := Lib.hid hh
          go_wp2
          go_ret2
          exact PriOut.mk (t := []) (hpf.out.trans hq.out) hX1.out
        · have hup2 := Lib.hid (hnx.out hck.out hh)
          replace hh := Lib.hid hh
          obtain ⟨T, hT⟩ : ∃ T, T = ofB (textT (l.take k)) := ⟨_, rfl⟩
          have hTs : T.size ≤ 15880 := by rw [hT, ofB_size]; omega
          rw [← hT]
          have hfin := Lib.hid (show T ++ ofB (lineT r) ++ ⟨#[10]⟩ = ofB (textT (l.take (k + 1))) by
            rw [hsn.out, hT, show (⟨#[10]⟩ : ByteArray) = ofB [10] from rfl, ofB_app, ofB_app]; simp)
          clear hT hln
          have hls : (ofB (lineT r)).size ≤ 793 := lineT_length hv.out
          go_wp2_with fail
          refine (hc2'.out _ (hf.out.ext hX1.out) hv.out (ht.out.ext hX1.out)).mono ?_
          rintro e w3 ⟨rfl, hx⟩
          have hX3 := Lib.hid (hX1.out.trans hx)
          clear hx c0 c1 c2 c3 c4 c5 c6
          go_wp2
          go_roundw
          case rel => exact ⟨k + 1, by omega, by rw [← hfin.out], by go_num, hup2.out, hX3.out⟩
          case measure => simp [intOf]; omega
    · have hd := Lib.hid (hup.done hlt)
      have hta : l.take k = l := List.take_of_length_le (by omega)
      rw [hta]
      replace hta := Lib.hid hta
      have hki : ¬ (k : Int) < l.length := by omega
      replace hX := Lib.hid hX
      replace hup := Lib.hid hup
      go_wp2
      go_ret2
      exact PriOut.mk (t := textT l) (hpf.out.trans hd.out) hX.out

end Go.Proofs.YtphaigncbenmmaaGreatDoor
