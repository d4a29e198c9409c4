/- Split, Number and read of the reference. -/
import Derived.Test.YtphaigncbenmmaaGreatDoorRst
import Derived.Test.YtphaigncbenmmaaGreatDoorRck
import Derived.Test.YtphaigncbenmmaaGreatDoorApp
import Derived.Deep.Cut
namespace Go.Proofs.YtphaigncbenmmaaGreatDoor
open Go Go.RowKit

def stC (s : ByteArray) : List Value := [.string s]
theorem stC_len (s : ByteArray) : (stC s).length = 1 := rfl
theorem stC_one (s : ByteArray) : ∀ u ∈ stC s, u.oneCell' = true := by
  intro u hu
  simp only [stC, List.mem_cons, List.not_mem_nil, or_false] at hu
  subst hu; rfl
theorem OwnE.rdS {E : TypeId} {B : Nat} {w : World} {v : Value} {l : List ByteArray} (h : OwnE E 1 stC B w v l) : RdS w v l := by
  obtain ⟨A, cap, rfl, h1, h2, h3⟩ := h.cells stC_len (by omega)
  refine ⟨A, cap, rfl, h1, h2, fun j hj => ?_⟩
  obtain ⟨b, o, rfl, hc⟩ := h3 j hj
  have := hc 0 (by omega)
  exact ⟨b, o, rfl, by simpa [stC] using this⟩
theorem Blk.cellsS {w : World} {g : Nat} {t : TypeId} {y : ByteArray} (h : Blk w g t (stC y).toArray) : ∀ i, i < 1 → w.cell? ⟨g, i, none⟩ = (stC y)[i]? := fun i _ => by
  rw [h.cell]; simp

set_option maxHeartbeats 2000000 in
theorem c_rsplit (d : UInt8) (n : Int) (hn : n = (d.toNat : Int)) (s : ByteArray) (w : World) (hs : s.size ≤ 30000) :
    Calls Tryz.prog 30 #[.string s, .int .u8 n] w fun e w' => ∃ v ws, e = .returned v ∧ RdS w' v ws ∧ ws.map bs = cuts d (bs s) ∧ Ext w w' := by
  go_enter Tryz.func30, Tryz.ntmps30
  go_wp2
  go_loopw [5, 6, 7] (fun v f i wr => ∃ (k m : Nat) (ls : List ByteArray), k ≤ s.size ∧ f = .int .i64 (m : Nat) ∧ i = .int .i64 (k : Nat) ∧ SplUp d s k m ls ∧ OwnE 9 1 stC w.heap.size wr v ls ∧ Ext w wr) (fun _ _ i _ => s.size - (intOf i).toNat)
  case atStart => exact ⟨0, 0, [], Nat.zero_le _, rfl, rfl, SplUp.start d s, OwnE.nil _ _ _ _ _, Ext.refl _⟩
  case round =>
    obtain ⟨k, m, ls, hk, rfl, rfl, hup, hown, hX⟩ := hrel
    obtain ⟨A, cap, rfl⟩ := hown.slice
    have hle := hup.le
    have hll := hup.len
    have hXs := Lib.hid hX.size
    by_cases hlt : k < s.size
    · have hkl : k < (bs s).length := by rw [bs_len]; exact hlt
      have hki : (k : Int) < s.size := by omega
      by_cases hc : s[k] = d
      · have hb : ((s[k].toNat : Int) == n) = true := by rw [hc, hn]; simp
        have hup2 := Lib.hid (hup.hit hkl hc)
        replace hup := Lib.hid hup
        replace hown := Lib.hid hown
        replace hX := Lib.hid hX
        replace hc := Lib.hid hc
        replace hn := Lib.hid hn
        go_wp2_with (at_builtin; refine wpList_appE (α := ByteArray) rfl (.tmp 19) (.tmp 24) 52 rfl 9 1 w.heap.size 16 _ stC Tryz.underlying52 info_string rfl (by decide) (by decide) stC_len stC_one _ ls (s.extract m k) wr.heap.size 1 rfl (hown.out.alloc _) rfl (Blk.cellsS (Blk.at rfl)) (by omega) (by have := hXs.out; simp; omega) ?_; intro A6 c6 w6 ho6 hg6 _)
        go_roundw
        case rel => exact ⟨k + 1, k + 1, ls ++ [s.extract m k], hlt, by go_num, by go_num, hup2.out, ho6, (hown.out.alloc _).extGrown (hX.out.alloc _) (Nat.le_refl _) hg6⟩
        case measure => simp [intOf]; omega
      · have hb : ((s[k].toNat : Int) == n) = false := by
          rw [beq_eq_false_iff_ne]
          intro e
          apply hc
          apply UInt8.toNat_inj.1
          omega
        have hup2 := Lib.hid (hup.miss hkl hc)
        replace hup := Lib.hid hup
        replace hown := Lib.hid hown
        replace hX := Lib.hid hX
        replace hc := Lib.hid hc
        replace hn := Lib.hid hn
        go_wp2
        go_roundw
        case rel => exact ⟨k + 1, m, ls, hlt, rfl, by go_num, hup2.out, hown.out, hX.out⟩
        case measure => simp [intOf]; omega
    · have hd := Lib.hid (hup.done (by omega))
      have hki : ¬ (k : Int) < s.size := by omega
      replace hup := Lib.hid hup
      replace hown := Lib.hid hown
      replace hX := Lib.hid hX
      replace hn := Lib.hid hn
      go_wp2_with (at_builtin; refine wpList_appE (α := ByteArray) rfl (.tmp 28) (.tmp 32) 52 rfl 9 1 w.heap.size 16 _ stC Tryz.underlying52 info_string rfl (by decide) (by decide) stC_len stC_one _ ls (s.extract m s.size) wr.heap.size 1 rfl (hown.out.alloc _) rfl (Blk.cellsS (Blk.at rfl)) (by omega) (by have := hXs.out; simp; omega) ?_; intro A6 c6 w6 ho6 hg6 _)
      go_ret
      exact ⟨_, rfl, ls ++ [s.extract m s.size], ho6.rdS, hd.out, (hown.out.alloc _).extGrown (hX.out.alloc _) (Nat.le_refl _) hg6⟩

theorem str_empty' {s : ByteArray} (h : bs s = []) : s.toList = [] ∧ s.toList.isEmpty = true := by
  have h1 : s.toList = [] := by rw [ByteArray.toList_eq]; exact h
  exact ⟨h1, by rw [h1]; rfl⟩
theorem str_full' {s : ByteArray} (h : bs s ≠ []) : ¬ s.toList = [] ∧ s.toList.isEmpty = false := by
  have h1 : ¬ s.toList = [] := by rw [ByteArray.toList_eq]; exact h
  refine ⟨h1, ?_⟩
  cases e : s.toList.isEmpty with
  | false => rfl
  | true => exact absurd (List.isEmpty_iff.1 e) h1

/-- how Number ends -/
def NbOut (s : ByteArray) (w : World) (e : Ending) (w' : World) : Prop :=
  w' = w ∧ ((num18 (bs s) = none ∧ e = .returned (.tuple #[.int .i64 0, .bool false])) ∨ (∃ n, num18 (bs s) = some n ∧ e = .returned (.tuple #[.int .i64 n, .bool true])))
theorem NbOut.no {s : ByteArray} {w : World} (h : num18 (bs s) = none) : NbOut s w (.returned (.tuple #[.int .i64 0, .bool false])) w := ⟨rfl, .inl ⟨h, rfl⟩⟩

theorem zero_word {s : ByteArray} : (s.toList == [48]) = true ↔ bs s = [48] := by
  rw [ByteArray.toList_eq]; exact beq_iff_eq

set_option maxRecDepth 20000 in
set_option maxHeartbeats 2000000 in
theorem c_rnumber (s : ByteArray) (w : World) (hs : s.size ≤ 30000) : Calls Tryz.prog 64 #[.string s] w (NbOut s w) := by
  go_enter Tryz.func64, Tryz.ntmps64
  by_cases h0 : bs s = []
  · obtain ⟨t1, t2⟩ := str_empty' h0
    have hno := Lib.hid (no18_num (num_bad (.inl (show digs (bs s) = [] by rw [h0]; rfl))))
    go_wp2
    go_ret2
    exact NbOut.no hno.out
  · obtain ⟨t1, t2⟩ := str_full' h0
    have hz : 0 < s.size := by
      rcases Nat.eq_zero_or_pos s.size with h | h
      · exact absurd (List.length_eq_zero_iff.1 (by rw [bs_len]; exact h)) h0
      · exact h
    have hh : (bs s).head? = some s[0] := by
      rw [List.head?_eq_getElem?, List.getElem?_eq_getElem (by rw [bs_len]; exact hz)]; rfl
    obtain ⟨D, ng, hD, hng, hDs, hDd⟩ : ∃ (D : ByteArray) (ng : Bool), bs D = digs (bs s) ∧ neg (bs s) = ng ∧ D.size ≤ s.size ∧ (ng = true → D = s.extract 1 s.size ∧ D.size + 1 = s.size ∧ s[0] = 45) ∧ (ng = false → D = s ∧ s[0] ≠ 45) := by
      by_cases h45 : s[0] = 45
      · obtain ⟨h1, h2⟩ := digs_cons45 s (by rw [hh, h45])
        refine ⟨s.extract 1 s.size, true, ?_, h1, ?_, fun _ => ⟨rfl, ?_, h45⟩, fun h => by cases h⟩
        · rw [h2, bs_extract, ← bs_len, show (bs s).length - 1 = ((bs s).drop 1).length by rw [List.length_drop], List.take_length]
        · rw [ByteArray.size_extract]; omega
        · rw [ByteArray.size_extract]; omega
      · obtain ⟨h1, h2⟩ := digs_other s (by rw [hh]; exact fun e => h45 (Option.some.inj e))
        exact ⟨s, false, h2.symm, h1, Nat.le_refl _, (fun h => Bool.noConfusion h), fun _ => ⟨rfl, h45⟩⟩
    have hsz : (digs (bs s)).length = D.size := by rw [← hD, bs_len]
    have hng1 := hDd.1
    have hng2 := hDd.2
    clear hDd
    have h45 : ((s[0].toNat : Int) == 45) = ng := by
      rcases ng with _ | _
      · rw [beq_eq_false_iff_ne]
        intro e
        refine (hng2 rfl).2 ?_
        apply UInt8.toNat_inj.1
        show s[0].toNat = 45
        omega
      · rw [(hng1 rfl).2.2]; rfl
    have hlen : (decide ((D.size : Int) < s.size)) = ng := by
      rcases ng with _ | _
      · rw [(hng2 rfl).1]; simp
      · have := (hng1 rfl).2.1
        simp; omega
    have hlens : ng = true → (D.size : Int) < s.size := fun h => by rw [h] at hlen; exact of_decide_eq_true hlen
    have hlens' : ng = false → ¬ (D.size : Int) < s.size := fun h => by rw [h] at hlen; exact of_decide_eq_false hlen
    clear hlen
    replace hh := Lib.hid hh
    by_cases hA : D.size = 0
    · have hno := Lib.hid (no18_num (num_bad (.inl (show digs (bs s) = [] from List.length_eq_zero_iff.1 (by rw [hsz]; exact hA)))))
      rcases ng with _ | _
      · have := (hng2 rfl).1
        rw [this] at hA
        omega
      · have hDe := (hng1 rfl).1
        obtain ⟨e1, e2⟩ := str_empty' (s := D) (by rw [hD]; exact List.length_eq_zero_iff.1 (by rw [hsz]; exact hA))
        have hc1 : (1 : Int) ≤ s.size := by omega
        replace hng1 := Lib.hid hng1
        replace hng2 := Lib.hid hng2
        replace hDe := Lib.hid hDe
        replace hD := Lib.hid hD
        replace hsz := Lib.hid hsz
        replace hng := Lib.hid hng
        replace hlens := Lib.hid hlens
        replace hlens' := Lib.hid hlens'
        go_upto_region 4 with fail
        rw [← hDe.out]
        go_wp2
        go_ret2
        exact NbOut.no hno.out
    obtain ⟨e1, e2⟩ := str_full' (s := D) (fun e => hA (by rw [← bs_len, e]; rfl))
    have hDz : 0 < D.size := by omega
    have hhd : (digs (bs s)).head? = some D[0] := by
      rw [← hD, List.head?_eq_getElem?, List.getElem?_eq_getElem (by rw [bs_len]; exact hDz)]; rfl
    have hc1 : (1 : Int) ≤ s.size := by omega
    by_cases hB : 18 < D.size
    · have hno := Lib.hid (no18_long (w := bs s) (by rw [hsz]; exact hB))
      replace hhd := Lib.hid hhd
      replace hD := Lib.hid hD
      replace hsz := Lib.hid hsz
      replace hng := Lib.hid hng
      rcases ng with _ | _
      focus
        have hDe := (hng2 rfl).1
        have hls := hlens' rfl
        replace hng1 := Lib.hid hng1
        replace hng2 := Lib.hid hng2
        replace hlens := Lib.hid hlens
        replace hlens' := Lib.hid hlens'
        subst hDe
        go_upto_region 4 with fail
      rotate_left
      focus
        have hDe := (hng1 rfl).1
        have hls := hlens rfl
        replace hng1 := Lib.hid hng1
        replace hng2 := Lib.hid hng2
        replace hlens := Lib.hid hlens
        replace hlens' := Lib.hid hlens'
        replace hDe := Lib.hid hDe
        go_upto_region 4 with fail
        rw [← hDe.out]
      all_goals
        go_wp2
        go_ret2
        exact NbOut.no hno.out
    have hz48 := Lib.hid (zero_word (s := s))
    have hDi : (D.size : Int) ≤ 18 := by omega
    have hDi2 : ¬ (18 : Int) < D.size := by omega
    by_cases hC : D[0] = 48 ∧ bs s ≠ [48]
    · obtain ⟨hC1, hC2⟩ := hC
      have hno := Lib.hid (no18_num (num_bad (w := bs s) (.inr ⟨by rw [hhd, hC1], by
        rcases Nat.lt_or_ge 1 (digs (bs s)).length with h1 | h1
        · exact .inl h1
        · right
          rcases hn2 : neg (bs s) with _ | _
          · exfalso
            apply hC2
            have h2 : digs (bs s) = bs s := by unfold digs; rw [hn2]; simp
            rw [h2] at h1 hhd
            match hbs : bs s, h1 with
            | [c], _ =>
              rw [hbs] at hhd
              have : c = D[0] := Option.some.inj hhd
              rw [this, hC1]
            | [], _ => exact absurd hbs h0
          · rfl⟩)))
      have c48 : ((D[0].toNat : Int) == 48) = true := by rw [hC1]; rfl
      have c48' : (D[0].toNat : Int) = 48 := by rw [hC1]; rfl
      have s48 : (s.toList == [48]) = false := by
        cases e : (s.toList == [48]) with
        | false => rfl
        | true => exact absurd (hz48.out.1 e) hC2
      replace hhd := Lib.hid hhd
      replace hD := Lib.hid hD
      replace hsz := Lib.hid hsz
      replace hng := Lib.hid hng
      replace hC2 := Lib.hid hC2
      rcases ng with _ | _
      focus
        have hDe := (hng2 rfl).1
        have hls := hlens' rfl
        replace hng1 := Lib.hid hng1
        replace hng2 := Lib.hid hng2
        replace hlens := Lib.hid hlens
        replace hlens' := Lib.hid hlens'
        subst hDe
        go_upto_region 4 with fail
      rotate_left
      focus
        have hDe := (hng1 rfl).1
        have hls := hlens rfl
        replace hng1 := Lib.hid hng1
        replace hng2 := Lib.hid hng2
        replace hlens := Lib.hid hlens
        replace hlens' := Lib.hid hlens'
        replace hDe := Lib.hid hDe
        go_upto_region 4 with fail
        rw [← hDe.out]
      all_goals
        go_wp2
        go_ret2
        exact NbOut.no hno.out
    have hG : ¬ (digs (bs s) = [] ∨ ((digs (bs s)).head? = some 48 ∧ (1 < (digs (bs s)).length ∨ neg (bs s) = true))) := by
      rintro (h1 | ⟨h1, h2⟩)
      · rw [h1] at hsz
        simp at hsz
        omega
      · rw [hhd] at h1
        have e48 : D[0] = 48 := Option.some.inj h1
        have hb : bs s = [48] := Decidable.byContradiction fun h => hC ⟨e48, h⟩
        rw [hb] at h2
        revert h2
        decide
    have hfin := Lib.hid (fun (k n : Nat) (h : NbUp D k n) (hk : ¬ k < D.size) => h.done hk hD (by omega) hG)
    have hnod := Lib.hid (fun h => no18_num (num_nodig (w := bs s) h))
    rw [← hD] at hnod
    have hc48 : (((D[0].toNat : Int) == 48) = false ∧ ¬ (D[0].toNat : Int) = 48) ∨ (((D[0].toNat : Int) == 48) = true ∧ (s.toList == [48]) = true) := by
      by_cases e48 : D[0] = 48
      · right
        refine ⟨by rw [e48]; rfl, hz48.out.2 (Decidable.byContradiction fun h => hC ⟨e48, h⟩)⟩
      · left
        have : ¬ (D[0].toNat : Int) = 48 := fun e => e48 (by
          apply UInt8.toNat_inj.1
          show D[0].toNat = 48
          omega)
        exact ⟨by rw [beq_eq_false_iff_ne]; exact this, this⟩
    rw [hng] at hfin
    replace hhd := Lib.hid hhd
    replace hD := Lib.hid hD
    replace hsz := Lib.hid hsz
    replace hng := Lib.hid hng
    replace hC := Lib.hid hC
    replace hG := Lib.hid hG
    rcases ng with _ | _
    focus
      have hDe := (hng2 rfl).1
      have hls := hlens' rfl
      replace hng1 := Lib.hid hng1
      replace hng2 := Lib.hid hng2
      replace hlens := Lib.hid hlens
      replace hlens' := Lib.hid hlens'
      subst hDe
      go_upto_region 4 with fail
    rotate_left
    focus
      have hDe := (hng1 rfl).1
      have hls := hlens rfl
      replace hng1 := Lib.hid hng1
      replace hng2 := Lib.hid hng2
      replace hlens := Lib.hid hlens
      replace hlens' := Lib.hid hlens'
      replace hDe := Lib.hid hDe
      go_upto_region 4 with fail
      rw [← hDe.out]
    all_goals
      rcases hc48 with ⟨c1, c2⟩ | ⟨c1, c2⟩
      all_goals
        go_wp2
        replace c1 := Lib.hid c1
        replace c2 := Lib.hid c2
        replace h45 := Lib.hid h45
        go_loop [5, 6] (fun x i => ∃ k m : Nat, k ≤ D.size ∧ x = .int .i64 (m : Nat) ∧ i = .int .i64 (k : Nat) ∧ NbUp D k m) (fun _ i => D.size - (intOf i).toNat)
        case atStart => exact ⟨0, 0, Nat.zero_le _, rfl, rfl, NbUp.start D⟩
        case round =>
          obtain ⟨k, m, hk, rfl, rfl, hup⟩ := hrel
          have hsm := hup.small (by omega)
          by_cases hlt : k < D.size
          · have hkl : k < (bs D).length := by rw [bs_len]; exact hlt
            have hki : (k : Int) < D.size := by omega
            have hm17 : m < 100000000000000000 := Nat.lt_of_lt_of_le hup.lt (Nat.le_trans (Nat.pow_le_pow_right (by omega) (show k ≤ 17 by omega)) (by decide))
            have hnx := Lib.hid (fun h1 h2 => hup.next hkl h1 h2)
            have hkd := Lib.hid (show (bs D)[k].toNat = D[k].toNat from rfl)
            have hno := Lib.hid (fun h => hnod.out (dig_hit hkl h))
            have hdd := Lib.hid (show digB D[k] = decide (48 ≤ D[k].toNat ∧ D[k].toNat ≤ 57) from rfl)
            replace hup := Lib.hid hup
            go_wp2_with fail
            refine (c_digit D[k] _).mono ?_
            rintro e w1 ⟨rfl, rfl⟩
            rcases hd : digB D[k] with _ | _
            · have hn0 := Lib.hid (hno.out (by
                rw [hkd.out]
                have h3 := hdd.out
                rw [hd] at h3
                have := of_decide_eq_false h3.symm
                omega))
              go_wp2
              go_ret2
              exact NbOut.no hn0.out
            · have h57 : 48 ≤ D[k].toNat ∧ D[k].toNat ≤ 57 := by
                have h3 := hdd.out
                rw [hd] at h3
                exact of_decide_eq_true h3.symm
              obtain ⟨d1, d2⟩ := h57
              have hup2 := Lib.hid (hnx.out (by rw [hkd.out]; exact d1) (by rw [hkd.out]; exact d2))
              rw [hkd.out] at hup2
              have hcast : ((10 * m + (D[k].toNat - 48) : Nat) : Int) = 10 * (m : Int) + ((D[k].toNat : Int) - 48) := by omega
              replace hcast := Lib.hid hcast
              go_wp2
              go_round
              case rel => exact ⟨k + 1, 10 * m + (D[k].toNat - 48), hlt, by rw [hcast.out]; rfl, by go_num, hup2.out⟩
              case measure => simp [intOf]; omega
          · have hki : ¬ (k : Int) < D.size := by omega
            have hf := Lib.hid (hfin.out k m hup hlt)
            replace hup := Lib.hid hup
            go_wp2
            go_ret2
            exact ⟨rfl, .inr ⟨_, hf.out, by simp⟩⟩

/-- how read ends: as numbers of the program -/
theorem nums_none (ws : List ByteArray) (k : Nat) (hk : k < ws.length) (hn : num18 (bs ws[k]) = none) : nums18 (ws.map bs) = none := nums_take_none ws k hk hn

set_option maxRecDepth 20000 in
set_option maxHeartbeats 2000000 in
theorem c_rread (v : Value) (ws : List ByteArray) (w : World) (h : RdS w v ws) (hs : ∀ x ∈ ws, x.size ≤ 30000) (hl : ws.length ≤ 100000) : Calls Tryz.prog 50 #[v] w (NumsOut ws w) := by
  obtain ⟨A, cap, rfl, hcap, hmax, hc⟩ := h
  unfold maxLen at hmax
  replace hc := Lib.hid hc
  replace hs := Lib.hid hs
  go_enter Tryz.func50, Tryz.ntmps50
  go_wp2
  go_loopw [4, 5] (fun v i wr => ∃ (k : Nat) (l : List Int), k ≤ ws.length ∧ i = .int .i64 k ∧ NumsUp ws k l ∧ OwnL .i64 3 w.heap.size wr v l ∧ Ext w wr) (fun _ i _ => ws.length - (intOf i).toNat)
  case atStart => exact ⟨0, [], Nat.zero_le _, rfl, ⟨rfl, rfl⟩, OwnL.nil _ _ _ _, Ext.refl _⟩
  case round =>
    obtain ⟨k, l, hk, rfl, hup, hown, hext⟩ := hrel
    obtain ⟨A', cap', rfl⟩ := hown.slice
    have hlen := Lib.hid hup.len
    by_cases hlt : k < ws.length
    · obtain ⟨b, o, rfl, hcell⟩ := hc.out k hlt
      replace hcell := hext.cell hcell
      have hsk := hs.out _ (List.getElem_mem hlt)
      have hno := Lib.hid (fun h => nums_none ws k hlt h)
      have hnx := Lib.hid (fun n h => hup.next hlt (n := n) h)
      obtain ⟨s, hsd⟩ : ∃ s, s = ws[k] := ⟨_, rfl⟩
      rw [← hsd] at hcell hsk hno hnx
      clear hsd
      have hXs := Lib.hid hext.size
      replace hext := Lib.hid hext
      replace hown := Lib.hid hown
      replace hup := Lib.hid hup
      have hki : (k : Int) < ws.length := by omega
      go_wp2_with fail
      refine (c_rnumber s _ hsk).mono ?_
      rintro e w1 ⟨rfl, ⟨hn, rfl⟩ | ⟨n, hn, rfl⟩⟩
      · have hnn := Lib.hid (hno.out hn)
        go_wp2
        go_ret2
        exact ⟨hext.out, .inl ⟨hnn.out, rfl⟩⟩
      · have hup2 := Lib.hid (hnx.out n hn)
        replace hn := Lib.hid hn
        go_wp2_with (at_builtin; refine wpList_app1 rfl (.tmp 24) (.tmp 26) 49 rfl .i64 3 w.heap.size 8 Tryz.underlying49 info_int (by decide) _ l n w1.heap.size 1 rfl (hown.out.alloc _) rfl ?_ ?_ ?_ ?_; (simp); (have := hlen.out; omega); (have := hXs.out; simp; omega); (intro A2 cap2 w3 ho hg hat2))
        go_roundw
        case rel => exact ⟨k + 1, l ++ [n], by omega, by go_num, hup2.out, ho, (hown.out.alloc _).extGrown (hext.out.alloc _) (Nat.le_refl _) hg⟩
        case measure => simp [intOf]; omega
    · have hki : ¬ (k : Int) < ws.length := by omega
      have hnu := Lib.hid hup.nums
      replace hext := Lib.hid hext
      replace hown := Lib.hid hown
      replace hup := Lib.hid hup
      go_wp2
      go_ret2
      refine ⟨hext.out, .inr ⟨l, _, ?_, rfl, hown.out⟩⟩
      rw [← hnu.out, List.take_of_length_le (by omega)]

end Go.Proofs.YtphaigncbenmmaaGreatDoor
