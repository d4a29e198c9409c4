/- parse of the reference: one line. -/
import Derived.Test.YtphaigncbenmmaaGreatDoorRrd
import Derived.Test.YtphaigncbenmmaaGreatDoorPln
namespace Go.Proofs.YtphaigncbenmmaaGreatDoor
open Go Go.RowKit

theorem lineI_no {R : List B} (h : 1 < R.length) (h1 : R[1] = []) : lineW R = none := lineW_empty (h1 ▸ List.getElem_mem h)

/-- what the loop of the reference's parse keeps -/
structure LineUq (R7 : List B) (ws : List ByteArray) (w3 : World) (P : Nat) (y0 y1 y2 y3 y4 y5 : Value) (wr : World) (k : Nat) (done : List Fl) (fv : Value) : Prop where
  le : k ≤ ws.length
  up : FlUp R7 ((ws.drop k).map bs) done
  m5 : (ws.length - k) % 5 = 0
  few : 5 * done.length ≤ k
  i64 : ∀ f ∈ done, FlI f
  blk : Blk wr P 26 #[y0, y1, y2, y3, y4, y5, fv]
  own : OwnE 47 4 flC P wr fv done
  ext : Ext w3 wr

theorem drop_get {ws : List ByteArray} {k : Nat} (hk : k < ws.length) (h0 : 0 < ((ws.drop k).map bs).length) : ((ws.drop k).map bs)[0] = bs ws[k] := by simp
theorem drop_four (ws : List ByteArray) (k : Nat) : ((ws.take (k + 5)).drop (k + 1)).map bs = (((ws.drop k).map bs).take 5).drop 1 := by
  rw [← List.map_take, ← List.map_drop, List.take_drop, List.drop_drop]

set_option maxRecDepth 20000 in
set_option maxHeartbeats 8000000 in
theorem c_rparse (s : ByteArray) (w : World) (hs : s.size ≤ 30000) : Calls Tryz.prog 31 #[.string s] w (LineOut (cuts 32 (bs s)) w) := by
  obtain ⟨R, hR⟩ : ∃ R, R = cuts 32 (bs s) := ⟨_, rfl⟩
  rw [← hR]
  go_enter Tryz.func31, Tryz.ntmps31
  go_wp2_with fail
  refine (c_rsplit 32 32 rfl s _ hs).mono ?_
  rintro e w1 ⟨v, ws, rfl, hrd, hws, hx1⟩
  rw [← hR] at hws
  have hlen : R.length = ws.length := by rw [← hws, List.length_map]
  have hpos : 0 < ws.length := by
    rw [← hlen, hR]
    have := cuts_ne_nil 32 (bs s)
    rcases h : cuts 32 (bs s) with _ | _
    · exact absurd h this
    · simp
  have hl30 : ws.length ≤ 30001 := by
    rw [← hlen, hR, cuts_length]
    have := List.count_le_length (a := (32 : UInt8)) (l := bs s)
    rw [bs_len] at this
    omega
  have hsz : ∀ x ∈ ws, x.size ≤ 30000 := by
    intro x hx
    have h1 : bs x ∈ cuts 32 (bs s) := by rw [← hR, ← hws]; exact List.mem_map.2 ⟨x, hx, rfl⟩
    have := cuts_short _ _ h1
    rw [bs_len, bs_len] at this
    omega
  obtain ⟨A, c, rfl⟩ := hrd.slice
  obtain ⟨b, o, rfl⟩ := hrd.base hpos
  obtain ⟨hcap, hcmax⟩ := hrd.cap
  have hE1 := Lib.hid (((Ext.refl w).alloc _).trans hx1)
  have hbq := Lib.hid (show Blk w1 w.heap.size 26 zeroR from (Blk.new w 26 zeroR).ext hx1)
  replace hlen := Lib.hid hlen
  replace hws := Lib.hid hws
  clear hR
  replace hx1 := Lib.hid hx1
  replace hsz := Lib.hid hsz
  have hw0 : w1.cell? ⟨b, o, none⟩ = some (.string (ws[0]'hpos)) := hrd.at 0 hpos
  replace hrd := Lib.hid hrd
  obtain ⟨q0, q1, q2, q3, q4, q5, q6⟩ := hbq.out.parts7
  have hlt := hbq.out.lt
  have g0 := hbq.out.frozen 0
  have g1 := hbq.out.frozen 1
  have g2 := hbq.out.frozen 2
  have g3 := hbq.out.frozen 3
  have g4 := hbq.out.frozen 4
  have g5 := hbq.out.frozen 5
  have g6 := hbq.out.frozen 6
  have fin : lineW R = none → ∀ w', Ext w w' → LineOut R w (.returned (.tuple #[.agg zeroR, .bool false])) w' := fun h w' hx => ⟨hx, .inl ⟨h, rfl⟩⟩
  replace fin := Lib.hid fin
  by_cases h7 : (ws.length : Int) < 7
  · have hno := Lib.hid (show lineW R = none from lineW_len (.inl (by rw [hlen.out]; omega)))
    go_wp2
    refine line_end rfl (.inl rfl) rfl rfl rfl (hbq.out.seven _ _ _ _ _ _ _) (fin.out hno.out _ (ext_seven hE1.out (Nat.le_refl _) _ _ _ _ _ _ _))
  have h1l : 1 < ws.length := by omega
  have hw1 : w1.cell? ⟨b, o + 1, none⟩ = some (.string (ws[1]'h1l)) := hrd.out.at 1 h1l
  have h1i : (1 : Int) < ws.length := by omega
  have h0i : (0 : Int) < ws.length := by omega
  rcases hk : ((ws[0]'hpos).toList == [114, 111, 108, 108]) with _ | _
  · have hno := Lib.hid (show lineW R = none from lineK_no (by rw [hlen.out]; exact hpos) (by
      have := word_ne hk
      intro e
      apply this
      rw [← show R[0]'(by rw [hlen.out]; exact hpos) = bs (ws[0]'hpos) by simp [← hws.out]]
      exact e))
    go_wp2
    refine line_end rfl (.inl rfl) rfl rfl rfl (hbq.out.seven _ _ _ _ _ _ _) (fin.out hno.out _ (ext_seven hE1.out (Nat.le_refl _) _ _ _ _ _ _ _))
  have hk0 := Lib.hid (word_eq hk)
  by_cases hi0 : bs (ws[1]'h1l) = []
  · obtain ⟨e1, e2⟩ := str_empty' hi0
    have hno := Lib.hid (show lineW R = none from lineI_no (by rw [hlen.out]; exact h1l) (by
      rw [show R[1]'(by rw [hlen.out]; exact h1l) = bs (ws[1]'h1l) by simp [← hws.out]]
      exact hi0))
    go_wp2
    refine line_end rfl (.inl rfl) rfl rfl rfl (hbq.out.seven _ _ _ _ _ _ _) (fin.out hno.out _ (ext_seven hE1.out (Nat.le_refl _) _ _ _ _ _ _ _))
  obtain ⟨e1, e2⟩ := str_full' hi0
  have hi1 := Lib.hid hi0
  have e5 := Lib.hid (show ((ws.length : Int) - 7).tmod 5 = ((ws.length : Int) - 7) % 5 from Int.tmod_eq_emod_of_nonneg (by omega))
  by_cases h5 : ((ws.length : Int) - 7).tmod 5 = 0
  rotate_left
  · have hno := Lib.hid (show lineW R = none from lineW_len (.inr (by rw [hlen.out]; rw [e5.out] at h5; omega)))
    have h5b : (((ws.length : Int) - 7) % 5 != 0) = true := by rw [← e5.out]; exact bne_iff_ne.2 h5
    go_wp2
    refine line_end rfl (.inl rfl) rfl rfl rfl (hbq.out.seven _ _ _ _ _ _ _) (fin.out hno.out _ (ext_seven hE1.out (Nat.le_refl _) _ _ _ _ _ _ _))
  have h7' : 7 ≤ ws.length := by omega
  have hc7 : (7 : Int) ≤ c := by omega
  have hc2 : ¬ c = 2 := by omega
  have hsub := Lib.hid (hrd.out.sub 2 7 (by omega) h7')
  have hsl := Lib.hid (show ((ws.take 7).drop 2).length = 5 by rw [List.length_drop, List.length_take]; omega)
  have hR7 := Lib.hid (show 7 ≤ R.length by rw [hlen.out]; exact h7')
  have hm5 := Lib.hid (show ((ws.length : Int) - 7) % 5 = 0 by rw [← e5.out]; exact h5)
  have hmap := Lib.hid (show ((ws.take 7).drop 2).map bs = (R.take 7).drop 2 by rw [← hws.out, List.map_drop, List.map_take])
  go_wp2_with fail
  refine (c_rread _ _ w1 hsub.out (fun x hx => hsz.out x (List.mem_of_mem_take (List.mem_of_mem_drop hx))) (by rw [hsl.out]; omega)).mono ?_
  rintro e w3 ⟨hx3, ⟨hno, rfl⟩ | ⟨l, nv, hnu, rfl, hown⟩⟩
  · have hno := Lib.hid (show lineW R = none from lineN_no hR7.out (by rw [← hmap.out]; exact hno))
    have hb3 := Lib.hid (hbq.out.ext hx3)
    have hE3 := Lib.hid (hE1.out.trans hx3)
    replace hx3 := Lib.hid hx3
    clear q0 q1 q2 q3 q4 q5 q6 g0 g1 g2 g3 g4 g5 g6 hlt
    obtain ⟨q0, q1, q2, q3, q4, q5, q6⟩ := hb3.out.parts7
    have hlt := hb3.out.lt
    have g0 := hb3.out.frozen 0
    have g1 := hb3.out.frozen 1
    have g2 := hb3.out.frozen 2
    have g3 := hb3.out.frozen 3
    have g4 := hb3.out.frozen 4
    have g5 := hb3.out.frozen 5
    have g6 := hb3.out.frozen 6
    go_wp2
    refine line_end rfl (.inl rfl) rfl rfl rfl (hb3.out.seven _ _ _ _ _ _ _) (fin.out hno.out _ (ext_seven hE3.out (Nat.le_refl _) _ _ _ _ _ _ _))
  · obtain ⟨n0, n1, n2, n3, n4, rfl⟩ := five_nums hnu (by rw [List.length_map, hsl.out])
    have hb3 := Lib.hid (hbq.out.ext hx3)
    have hE3 := Lib.hid (hE1.out.trans hx3)
    have hrd3 := Lib.hid (hrd.out.ext hx3)
    replace hw1 := hx3.cell hw1
    replace hnu := Lib.hid hnu
    replace hx3 := Lib.hid hx3
    clear q0 q1 q2 q3 q4 q5 q6 g0 g1 g2 g3 g4 g5 g6 hlt hw0
    obtain ⟨A2, cap2, e2', hcap2, hmax2, hcs⟩ := hown.rdI
    subst e2'
    obtain ⟨g, o', rfl, c0⟩ := hcs 0 (by simp)
    have c0 : w3.cell? ⟨g, o', none⟩ = some (.int .i64 n0) := c0
    have c1 : w3.cell? ⟨g, o' + 1, none⟩ = some (.int .i64 n1) := by
      obtain ⟨_, _, e, hc⟩ := hcs 1 (by simp)
      cases e; exact hc
    have c2 : w3.cell? ⟨g, o' + 2, none⟩ = some (.int .i64 n2) := by
      obtain ⟨_, _, e, hc⟩ := hcs 2 (by simp)
      cases e; exact hc
    have c3 : w3.cell? ⟨g, o' + 3, none⟩ = some (.int .i64 n3) := by
      obtain ⟨_, _, e, hc⟩ := hcs 3 (by simp)
      cases e; exact hc
    have c4 : w3.cell? ⟨g, o' + 4, none⟩ = some (.int .i64 n4) := by
      obtain ⟨_, _, e, hc⟩ := hcs 4 (by simp)
      cases e; exact hc
    clear hcs hcap2 hmax2
    have hlg := World.block_lt_of_cell? _ _ c0
    have hlb := World.block_lt_of_cell? _ _ hw1
    replace hown := Lib.hid hown
    go_wp2
    go_region_held3 (fun w' => ∀ b o, b < w3.heap.size → w'.cell? ⟨b, o, none⟩ = w3.cell? ⟨b, o, none⟩)
      (first
        | exact (fun _ _ _ => rfl)
        | exact (fun b o hb => alloc_keep hb o)
        | assumption)
      (first | fail)
    obtain ⟨w4, hw4⟩ : ∃ w4, w4 = (w3.alloc (.cells #[.string (ws[1]'h1l), .int .i64 n1, .int .i64 n0, .int .i64 n2, .int .i64 n3, .int .i64 n4, .slice none 0 0] 26)).drew := ⟨_, rfl⟩
    have hX4 := Lib.hid (show Ext w3 w4 from hw4 ▸ ((Ext.refl w3).alloc _).drew)
    have hbp := Lib.hid (show Blk w4 w3.heap.size 26 #[.string (ws[1]'h1l), .int .i64 n1, .int .i64 n0, .int .i64 n2, .int .i64 n3, .int .i64 n4, .slice none 0 0] from hw4 ▸ (Blk.new w3 26 _).drew)
    rw [← hw4]
    clear hw4 c0 c1 c2 c3 c4 hlg hlb hw1 h1i hown
    have hws3 : w.heap.size ≤ w3.heap.size := hE3.out.size
    have hq3 : w.heap.size < w3.heap.size := hb3.out.lt
    obtain ⟨P, hP⟩ : ∃ P, P = w3.heap.size := ⟨_, rfl⟩
    rw [← hP] at hbp hws3 hq3 ⊢
    replace hP := Lib.hid hP
    have hfl7 := Lib.hid (lineN_yes hR7.out (Eq.trans (by simp [← hws.out]) hk0.out) (by have := hi1.out; simpa [← hws.out] using this) (by rw [← hmap.out]; exact hnu.out))
    have hPs : w3.heap.size = P := hP.out.symm
    replace hPs := Lib.hid hPs
    go_wp2
    go_loopw [8] (fun v wr => ∃ (k : Nat) (done : List Fl) (fv : Value), v = .int .i64 (k : Nat) ∧ LineUq (R.drop 7) ws w3 P (.string (ws[1]'h1l)) (.int .i64 n1) (.int .i64 n0) (.int .i64 n2) (.int .i64 n3) (.int .i64 n4) wr k done fv) (fun v _ => ws.length - (intOf v).toNat)
    case atStart =>
      have h7d : R.drop 7 = (ws.drop 7).map bs := by rw [← hws.out, List.map_drop]
      have hm := hm5.out
      refine ⟨7, [], .slice none 0 0, rfl, h7', ?_, by omega, by simp, fun _ h => (by cases h), hbp.out, OwnE.nil _ _ _ _ _, hX4.out⟩
      rw [h7d]; exact FlUp.start _
    case round =>
      obtain ⟨k, done, fv, rfl, hup⟩ := hrel
      have hkle := hup.le
      obtain ⟨Af, cf, rfl⟩ := hup.own.slice
      have hrz := hb3.out.ext hup.ext
      by_cases hz : ¬ k < ws.length
      · have e0 : ws.drop k = [] := List.drop_of_length_le (by omega)
        have hff := Lib.hid (show flawsOf (R.drop 7) = some done from by have := hup.up; rw [e0] at this; exact this.fin)
        obtain ⟨r0, r1, r2, r3, r4, r5, r6⟩ := hup.blk.parts7
        obtain ⟨s0, s1, s2, s3, s4, s5, s6⟩ := hrz.parts7
        have g0 := hrz.frozen 0
        have g1 := hrz.frozen 1
        have g2 := hrz.frozen 2
        have g3 := hrz.frozen 3
        have g4 := hrz.frozen 4
        have g5 := hrz.frozen 5
        have g6 := hrz.frozen 6
        have hltP := hup.blk.lt
        have hltq := hrz.lt
        replace hrz := Lib.hid hrz
        replace hup := Lib.hid hup
        have hki : ¬ (k : Int) < ws.length := by omega
        clear e0
        go_wp2
        refine line_end rfl (by first | exact .inl rfl | exact .inr rfl) rfl rfl rfl (hrz.out.seven _ _ _ _ _ _ _) ⟨ext_seven (hE3.out.trans hup.out.ext) (Nat.le_refl _) _ _ _ _ _ _ _, .inr ⟨⟨bs (ws[1]'h1l), n1, n0, n2, n3, n4, done⟩, .slice Af done.length cf, ?_, ?_, ?_, hup.out.i64, ?_⟩⟩
        · rw [hfl7.out, hff.out]
          simp [← hws.out]
        · unfold roV; rw [ofB_bs]
        · exact (hup.out.own.kept (grown7 _ _ _ _ _ _ _) (.inr (row_ne hup.out.own hrz.out (by decide)))).mono hws3
        · rw [bs_len]; exact hsz.out _ (List.getElem_mem h1l)
      · have hkl : k < ws.length := by omega
        have hk5 : k + 5 ≤ ws.length := by have := hup.m5; omega
        have h5m : 5 ≤ ((ws.drop k).map bs).length := by rw [List.length_map, List.length_drop]; omega
        have hsub5 := Lib.hid ((hrd3.out.sub (k + 1) (k + 5) (by omega) hk5).ext hup.ext)
        have hsub5' := Lib.hid (show RdS wr (.slice (some ⟨b, o + (k + 1), none⟩) 4 (c - (k + 1))) ((ws.take (k + 5)).drop (k + 1)) by have := hsub5.out; rw [show k + 5 - (k + 1) = 4 by omega] at this; exact this)
        have hsl5 := Lib.hid (show ((ws.take (k + 5)).drop (k + 1)).length = 4 by rw [List.length_drop, List.length_take]; omega)
        have hmap5 := Lib.hid (drop_four ws k)
        have hk0' := Lib.hid (drop_get hkl (by omega))
        have hno' := Lib.hid (show flawsOf (R.drop 7) = none → lineW R = none from fun h => by
          rw [hfl7.out, h]; rfl)
        have hki : (k : Int) < ws.length := by omega
        have hk1i : (k : Int) + 5 ≤ c := by omega
        have hcn : ¬ c = k + 1 := by omega
        replace hrz := Lib.hid hrz
        replace hup := Lib.hid hup
        clear hz
        go_wp2_with fail
        refine (c_rread _ _ wr hsub5'.out (fun x hx => hsz.out x (List.mem_of_mem_take (List.mem_of_mem_drop hx))) (by rw [hsl5.out]; omega)).mono ?_
        intro e w5 he5
        have hx5 := he5.1
        have hw0 : w5.cell? ⟨b, o + k, none⟩ = some (.string ws[k]) := (hup.out.ext.trans hx5).cell (hrd3.out.at k hkl)
        have hE35 := Lib.hid (hup.out.ext.trans hx5)
        have hE5 := Lib.hid (hE3.out.trans hE35.out)
        have hr5 := hb3.out.ext hE35.out
        have hb5 := hup.out.blk.ext hx5
        have ho5 := Lib.hid (hup.out.own.ext hx5)
        have hlb := World.block_lt_of_cell? _ _ hw0
        obtain ⟨s0, s1, s2, s3, s4, s5, s6⟩ := hr5.parts7
        have g0 := hr5.frozen 0
        have g1 := hr5.frozen 1
        have g2 := hr5.frozen 2
        have g3 := hr5.frozen 3
        have g4 := hr5.frozen 4
        have g5 := hr5.frozen 5
        have g6 := hr5.frozen 6
        have hltq := hr5.lt
        replace hr5 := Lib.hid hr5
        replace hb5 := Lib.hid hb5
        replace hx5 := Lib.hid hx5
        rcases hkf : ((ws[k]).toList == [102, 108, 97, 119]) with _ | _
        · have hno := Lib.hid (hno'.out (hup.out.up.noK h5m (by
            have := word_ne hkf
            intro e
            apply this
            rw [hk0'.out] at e
            exact e)))
          obtain ⟨_, ⟨_, rfl⟩ | ⟨l5, nv5, _, rfl, ho⟩⟩ := he5
          · skip
            go_wp2
            refine line_end rfl (.inl rfl) rfl rfl rfl (hr5.out.seven _ _ _ _ _ _ _) (fin.out hno.out _ (ext_seven hE5.out (Nat.le_refl _) _ _ _ _ _ _ _))
          · obtain ⟨A6, cap6, rfl⟩ := ho.slice
            replace ho := Lib.hid ho
            go_wp2
            refine line_end rfl (.inl rfl) rfl rfl rfl (hr5.out.seven _ _ _ _ _ _ _) (fin.out hno.out _ (ext_seven hE5.out (Nat.le_refl _) _ _ _ _ _ _ _))
        · have hk5' := Lib.hid (word_eq hkf)
          obtain ⟨_, ⟨hnn, rfl⟩ | ⟨l5, nv5, hnu5, rfl, hown5⟩⟩ := he5
          · have hno := Lib.hid (hno'.out (hup.out.up.noN h5m (by rw [← hmap5.out]; exact hnn)))
            go_wp2
            refine line_end rfl (.inl rfl) rfl rfl rfl (hr5.out.seven _ _ _ _ _ _ _) (fin.out hno.out _ (ext_seven hE5.out (Nat.le_refl _) _ _ _ _ _ _ _))
          · obtain ⟨x0, x1, x2, x3, rfl⟩ := four_nums hnu5 (by rw [List.length_map, hsl5.out])
            have hsm := Lib.hid (nums18_small hnu5)
            obtain ⟨A6, cap6, e6, hcap6, hmax6, hcs⟩ := hown5.rdI
            subst e6
            obtain ⟨gN, o6, rfl, c0⟩ := hcs 0 (by simp)
            have c0 : w5.cell? ⟨gN, o6, none⟩ = some (.int .i64 x0) := c0
            have c1 : w5.cell? ⟨gN, o6 + 1, none⟩ = some (.int .i64 x1) := by
              obtain ⟨_, _, e, hc⟩ := hcs 1 (by simp)
              cases e; exact hc
            have c2 : w5.cell? ⟨gN, o6 + 2, none⟩ = some (.int .i64 x2) := by
              obtain ⟨_, _, e, hc⟩ := hcs 2 (by simp)
              cases e; exact hc
            have c3 : w5.cell? ⟨gN, o6 + 3, none⟩ = some (.int .i64 x3) := by
              obtain ⟨_, _, e, hc⟩ := hcs 3 (by simp)
              cases e; exact hc
            clear hcs hcap6 hmax6 s0 s1 s2 s3 s4 s5 s6 g0 g1 g2 g3 g4 g5 g6 hltq
            have hlg := World.block_lt_of_cell? _ _ c0
            have q9 : w5.cell? ⟨P, 6, none⟩ = some (.slice Af done.length cf) := hb5.out.cell 6
            have f9 := hb5.out.frozen 6
            have hlt9 := hb5.out.lt
            have hdn : done.length ≤ 1000000 := by have := hup.out.few; omega
            have hBw := Lib.hid (show P ≤ w5.heap.size by rw [← hPs.out]; exact hE35.out.size)
            replace hown5 := Lib.hid hown5
            replace hnu5 := Lib.hid hnu5
            have hPg : ¬ P = gN := by
              have t1 := hown5.out.base gN rfl
              have t2 := hup.out.blk.lt
              omega
            obtain ⟨csg, hbg⟩ := blk_of_own hown5.out
            have hgp := Lib.hid (row_ne ho5.out hbg (by decide))
            replace hbg := Lib.hid hbg
            go_wp2
            refine wp_region_held_drew (S := fun w' => ∀ o, w'.cell? ⟨gN, o, none⟩ = w5.cell? ⟨gN, o, none⟩) (by kernel_rfl) (fun o => rfl) (fun hHeld => ?_)
            refine wpAnyH_take (i := 0) (oi := ⟨some 91, _, _, _, _, _⟩) (v := ?_) rfl (by kernel_rfl) (by kernel_rfl) (by kernel_rfl) (fun _ _ _ h => h) (Or.inl ⟨by rfl, ?_⟩) hHeld ?_
            rotate_left
            · intro w hSw; go_simp; try with_reducible rfl
            try simp only [Act.put, List.setIfInBounds_toArray, List.set_cons_zero, List.set_cons_succ]
            refine wpAnyH_take (i := 2) (oi := ⟨some 93, _, _, _, _, _⟩) (v := ?_) rfl (by kernel_rfl) (by kernel_rfl) (by kernel_rfl) (fun _ _ _ h => h) (Or.inl ⟨by rfl, ?_⟩) hHeld ?_
            rotate_left
            · intro w hSw; go_simp; try with_reducible rfl
            try simp only [Act.put, List.setIfInBounds_toArray, List.set_cons_zero, List.set_cons_succ]
            refine wpAnyH_take (i := 3) (oi := ⟨some 94, _, _, _, _, _⟩) (v := ?_) rfl (by kernel_rfl) (by kernel_rfl) (by kernel_rfl) (fun _ _ _ h => h) (Or.inl ⟨by rfl, ?_⟩) hHeld ?_
            rotate_left
            · intro w hSw; go_simp; try with_reducible rfl
            try simp only [Act.put, List.setIfInBounds_toArray, List.set_cons_zero, List.set_cons_succ]
            refine wpAnyH_take (i := 4) (oi := ⟨some 95, _, _, _, _, _⟩) (v := ?_) rfl (by kernel_rfl) (by kernel_rfl) (by kernel_rfl) (fun _ _ _ h => h) (Or.inl ⟨by rfl, ?_⟩) hHeld ?_
            rotate_left
            · intro w hSw; go_simp; try with_reducible rfl
            try simp only [Act.put, List.setIfInBounds_toArray, List.set_cons_zero, List.set_cons_succ]
            refine wpAnyH_take (i := 5) (oi := ⟨some 96, _, _, _, _, _⟩) (v := ?_) rfl (by kernel_rfl) (by kernel_rfl) (by kernel_rfl) (fun _ _ _ h => h) (Or.inl ⟨by rfl, ?_⟩) hHeld ?_
            rotate_left
            · intro w hSw; go_simp; try with_reducible rfl
            try simp only [Act.put, List.setIfInBounds_toArray, List.set_cons_zero, List.set_cons_succ]
            refine wpAnyH_take (i := 6) (oi := ⟨some 97, _, _, _, _, _⟩) (v := ?_) rfl (by kernel_rfl) (by kernel_rfl) (by kernel_rfl) (fun _ _ _ h => h) (Or.inl ⟨by rfl, ?_⟩) hHeld ?_
            rotate_left
            · intro w hSw; go_simp; try with_reducible rfl
            try simp only [Act.put, List.setIfInBounds_toArray, List.set_cons_zero, List.set_cons_succ]
            refine wpAnyH_take (i := 7) (oi := ⟨some 98, _, _, _, _, _⟩) (v := ?_) rfl (by kernel_rfl) (by kernel_rfl) (by kernel_rfl) (fun _ _ _ h => h) (Or.inl ⟨by rfl, ?_⟩) hHeld ?_
            rotate_left
            · intro w hSw; go_simp; try with_reducible rfl
            try simp only [Act.put, List.setIfInBounds_toArray, List.set_cons_zero, List.set_cons_succ]
            refine wpAnyH_take (i := 8) (oi := ⟨some 99, _, _, _, _, _⟩) (v := ?_) rfl (by kernel_rfl) (by kernel_rfl) (by kernel_rfl) (fun _ _ _ h => h) (Or.inl ⟨by rfl, ?_⟩) hHeld ?_
            rotate_left
            · intro w hSw; go_simp; try with_reducible rfl
            try simp only [Act.put, List.setIfInBounds_toArray, List.set_cons_zero, List.set_cons_succ]
            refine wpAnyH_take (i := 9) (oi := ⟨some 100, _, _, _, _, _⟩) (v := ?_) rfl (by kernel_rfl) (by kernel_rfl) (by kernel_rfl) (fun _ _ _ h => h) (Or.inl ⟨by rfl, ?_⟩) hHeld ?_
            rotate_left
            · intro w hSw; go_simp; try with_reducible rfl
            try simp only [Act.put, List.setIfInBounds_toArray, List.set_cons_zero, List.set_cons_succ]
            refine wpAnyH_take (i := 10) (oi := ⟨some 101, _, _, _, _, _⟩) (v := ?_) rfl (by kernel_rfl) (by kernel_rfl) (by kernel_rfl) (fun _ _ _ h => h) (Or.inl ⟨by rfl, ?_⟩) hHeld ?_
            rotate_left
            · intro w hSw; go_simp; try with_reducible rfl
            try simp only [Act.put, List.setIfInBounds_toArray, List.set_cons_zero, List.set_cons_succ]
            refine wpAnyH_take (i := 11) (oi := ⟨some 102, _, _, _, _, _⟩) (v := ?_) rfl (by kernel_rfl) (by kernel_rfl) (by kernel_rfl) (fun _ _ _ h => h) (Or.inl ⟨by rfl, ?_⟩) hHeld ?_
            rotate_left
            · intro w hSw; go_simp; try with_reducible rfl
            try simp only [Act.put, List.setIfInBounds_toArray, List.set_cons_zero, List.set_cons_succ]
            refine wpAnyH_take (i := 12) (oi := ⟨some 103, _, _, _, _, _⟩) (v := ?_) rfl (by kernel_rfl) (by kernel_rfl) (by kernel_rfl) (fun _ _ _ h => h) (Or.inl ⟨by rfl, ?_⟩) hHeld ?_
            rotate_left
            · intro w hSw; go_simp; try with_reducible rfl
            try simp only [Act.put, List.setIfInBounds_toArray, List.set_cons_zero, List.set_cons_succ]
            refine wpAnyH_take (i := 13) (oi := ⟨some 104, _, _, _, _, _⟩) (v := ?_) rfl (by kernel_rfl) (by kernel_rfl) (by kernel_rfl) (fun _ _ _ h => h) (Or.inl ⟨by rfl, ?_⟩) hHeld ?_
            rotate_left
            · intro w hSw; go_simp; try with_reducible rfl
            try simp only [Act.put, List.setIfInBounds_toArray, List.set_cons_zero, List.set_cons_succ]
            refine wpAnyH_take (i := 14) (oi := ⟨some 105, _, _, _, _, _⟩) (v := ?_) rfl (by kernel_rfl) (by kernel_rfl) (by kernel_rfl) (fun _ _ _ h => h) (Or.inl ⟨by rfl, ?_⟩) hHeld ?_
            rotate_left
            · intro w hSw; go_simp; try with_reducible rfl
            try simp only [Act.put, List.setIfInBounds_toArray, List.set_cons_zero, List.set_cons_succ]
            refine wpAnyH_ready (rs := [1, 15]) (by kernel_rfl) (by simp) (AllReadyH.cons (o := ⟨some 92, _, _, _, _, _⟩) rfl (fun K hK => ?_) (AllReadyH.cons (o := ⟨some 106, _, _, _, _, _⟩) rfl (fun K hK => ?_) AllReadyH.nil))
            rotate_left
            go_simp
            refine hK.out _ _ (fun o => alloc_keep hlg o) (fun hHeld => ?_)
            clear hK K
            try simp only [Act.put, List.setIfInBounds_toArray, List.set_cons_zero, List.set_cons_succ]
            refine wpAnyH_ready (rs := [1]) (by kernel_rfl) (by simp) (AllReadyH.cons (o := ⟨some 92, _, _, _, _, _⟩) rfl (fun K hK => ?_) AllReadyH.nil)
            go_simp
            refine hK.out _ _ (fun o => alloc_keep hlg o) (fun hHeld => ?_)
            clear hK K
            try simp only [Act.put, List.setIfInBounds_toArray, List.set_cons_zero, List.set_cons_succ]
            rotate_left
            go_simp
            refine hK.out _ _ (fun o => rfl) (fun hHeld => ?_)
            clear hK K
            try simp only [Act.put, List.setIfInBounds_toArray, List.set_cons_zero, List.set_cons_succ]
            refine wpAnyH_ready (rs := [15]) (by kernel_rfl) (by simp) (AllReadyH.cons (o := ⟨some 106, _, _, _, _, _⟩) rfl (fun K hK => ?_) AllReadyH.nil)
            go_simp
            refine hK.out _ _ (fun o => alloc_keep hlg o) (fun hHeld => ?_)
            clear hK K
            try simp only [Act.put, List.setIfInBounds_toArray, List.set_cons_zero, List.set_cons_succ]
            all_goals
              refine wpAnyH_ready (rs := [16]) (by kernel_rfl) (by simp) (AllReadyH.cons (o := ⟨some 107, _, _, _, _, _⟩) rfl (fun K hK => ?_) AllReadyH.nil)
              rw [if_pos (by rfl)]
              refine wp_appE (α := Fl) (.tmp 92) (.tmp 106) 24 rfl 47 4 P 32 _ flC Tryz.underlying24 info_rect rfl (by decide) (by decide) flC_len flC_one (.slice Af done.length cf) done ⟨x0, x1, x2, x3⟩ w5.heap.size 1 rfl ((ho5.out.ext (Ext.refl w5).drew).alloc _) rfl (Blk.new w5.drew 47 _) hdn (le_alloc_drew hBw.out) ?_
              intro A7 cap7 w7 ho7 hg7
              have hkeep : ∀ o, w7.cell? ⟨gN, o, none⟩ = w5.cell? ⟨gN, o, none⟩ := keep_grown hg7 hgp.out hlg
              have hb7 := (hb5.out.drew.alloc _).grown hg7 (fun h => row_ne ho5.out hb5.out (by decide) h.symm)
              have hG7 := Lib.hid (grown_after (((Ext.refl w5).alloc _).drew) hg7)
              refine hK.out _ _ hkeep (fun hHeld => ?_)
              clear hK K
              try simp only [Act.put, List.setIfInBounds_toArray, List.set_cons_zero, List.set_cons_succ]
              have f97 := hb7.frozen 6
              have hlt7 := hb7.lt
              have q97 : w7.cell? ⟨P, 6, none⟩ = some (.slice Af done.length cf) := hb7.cell 6
              replace hb7 := Lib.hid hb7
              replace ho7 := Lib.hid ho7
              replace hg7 := Lib.hid hg7
              refine wpAnyH_take (i := 17) (oi := ⟨some 108, _, _, _, _, _⟩) (v := ?_) rfl (by kernel_rfl) (by kernel_rfl) (by kernel_rfl) (fun _ _ _ h => h) (Or.inl ⟨by rfl, ?_⟩) hHeld ?_
              rotate_left
              · intro w hSw; go_simp; try with_reducible rfl
              try simp only [Act.put, List.setIfInBounds_toArray, List.set_cons_zero, List.set_cons_succ]
              refine wpAnyH_ready (rs := [18]) (by kernel_rfl) (by simp) (AllReadyH.cons (o := ⟨none, _, _, _, _, _⟩) rfl (fun K hK => ?_) AllReadyH.nil)
              go_simp
              refine hK.out _ _ (fun o => (World.cell?_setCell_other _ _ _ _ (fun t => hPg (by cases t; rfl))).trans (hkeep o)) (fun hHeld => ?_)
              clear hK K
              try simp only [Act.put, List.setIfInBounds_toArray, List.set_cons_zero, List.set_cons_succ]
              refine wpAnyH_done (by kernel_rfl) ?_ _
              obtain ⟨w8, hw8⟩ : ∃ w8, w8 = w7.setCell ⟨P, 6, none⟩ (.slice A7 (done.length + 1) cap7) := ⟨_, rfl⟩
              have hgr : w7.grownBy w8 (some P) := by rw [hw8]; exact grown_set _ 6 _
              have hq8 := Lib.hid (show Blk w8 P 26 #[.string (ws[1]'h1l), .int .i64 n1, .int .i64 n0, .int .i64 n2, .int .i64 n3, .int .i64 n4, .slice A7 (done.length + 1) cap7] from hw8 ▸ hb7.out.set_ 6 _)
              have ho8 := Lib.hid (ho7.out.kept hgr (.inr (row_ne ho7.out hb7.out (by decide))))
              have hE8 := Lib.hid (show Ext w3 w8 from hw8 ▸ ((ho5.out.extGrown hE35.out (Nat.le_of_eq hPs.out) hG7.out)).setCell (p := ⟨P, 6, none⟩) (Nat.le_of_eq hPs.out) _)
              rw [← hw8]
              clear hw8 hgr q97 f97 hlt7 hkeep hHeld c0 c1 c2 c3 q9 f9 hlt9 hlg hPg
              have hup2 := Lib.hid (hup.out.up.nextN h5m (by rw [hk0'.out]; exact hk5'.out) (by rw [← hmap5.out]; exact hnu5.out))
              have hs5 := Lib.hid (show ((ws.drop k).map bs).drop 5 = (ws.drop (k + 5)).map bs by rw [← List.map_drop, List.drop_drop])
              have hfew := Lib.hid hup.out.few
              have hm5' := Lib.hid hup.out.m5
              have hi64' := Lib.hid (show ∀ f ∈ done ++ [⟨x0, x1, x2, x3⟩], FlI f from fun f hf => by
                rcases List.mem_append.1 hf with hf | hf
                · exact hup.out.i64 f hf
                · rw [List.mem_singleton] at hf
                  subst hf
                  exact ⟨i18 (hsm.out x0 (by simp)), i18 (hsm.out x1 (by simp)), i18 (hsm.out x2 (by simp)), i18 (hsm.out x3 (by simp))⟩)
              rw [hs5.out] at hup2
              go_wp2
              go_roundw
              case rel =>
                refine ⟨k + 5, done ++ [⟨x0, x1, x2, x3⟩], _, by go_num, ⟨hk5, hup2.out, ?_, ?_, hi64'.out, hq8.out, ho8.out, hE8.out⟩⟩
                · have := hm5'.out; omega
                · have := hfew.out; simp; omega
              case measure => simp [intOf]; omega

end Go.Proofs.YtphaigncbenmmaaGreatDoor
