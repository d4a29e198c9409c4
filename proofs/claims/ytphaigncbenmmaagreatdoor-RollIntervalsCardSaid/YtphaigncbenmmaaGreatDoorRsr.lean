/- Stretches of the reference. -/
import Derived.Test.YtphaigncbenmmaaGreatDoorStr
import Derived.Test.YtphaigncbenmmaaGreatDoorRck
import Derived.Test.YtphaigncbenmmaaGreatDoorRst
namespace Go.Proofs.YtphaigncbenmmaaGreatDoor
open Go Go.RowKit

set_option maxRecDepth 20000 in
set_option maxHeartbeats 2000000 in
theorem c_behind (r : Ro) (fv : Value) (a : Int) (w : World) (h : RdF w fv r.fl) (hv : Valid r) (_h0 : 0 ≤ a) (hl : a ≤ r.len) :
    Calls Tryz.prog 41 #[roV r fv, .int .i64 a] w fun e w' => e = .returned (.int .i64 (behind r.fl a)) ∧ Ext w w' := by
  obtain ⟨A, c, rfl, hcap, hmax, _, hc⟩ := h
  unfold maxLen at hmax
  replace hc := Lib.hid hc
  have hle := hv.len
  have hfit := Lib.hid hv.fits
  replace hv := Lib.hid hv
  unfold roV
  go_enter Tryz.func41, Tryz.ntmps41
  go_wp2
  obtain ⟨wB, hwB⟩ : ∃ wB, wB = w.alloc (.cells (roC r (.slice A r.fl.length c)).toArray 26) := ⟨_, rfl⟩
  have hb := Lib.hid (show Blk wB w.heap.size 26 (roC r (.slice A r.fl.length c)).toArray from hwB ▸ Blk.new w 26 _)
  have hEB := Lib.hid (show Ext w wB from hwB ▸ (Ext.refl w).alloc _)
  unfold roC at hwB
  rw [← hwB]
  clear hwB
  go_loopw [5, 12] (fun x i wr => ∃ k : Nat, k ≤ r.fl.length ∧ x = .int .i64 (rounds r.fl k a) ∧ i = .int .i64 (k : Nat) ∧ Ext wB wr) (fun _ i _ => r.fl.length - (intOf i).toNat)
  case atStart => exact ⟨0, Nat.zero_le _, rfl, rfl, Ext.refl _⟩
  case round =>
    obtain ⟨k, hk, rfl, rfl, hX⟩ := hrel
    obtain ⟨wq, hwq⟩ : ∃ wq, wq = wr := ⟨_, rfl⟩
    subst hwq
    by_cases hlt : k < r.fl.length
    · have hki : (k : Int) < r.fl.length := by omega
      have hz := Lib.hid (hopsUp_zero r.fl a k)
      replace hX := Lib.hid hX
      rw [← hz.out]
      go_wp2
      go_loopw [5, 6] (fun x i wr => ∃ j : Nat, j ≤ r.fl.length ∧ x = .int .i64 (hopsUp r.fl a k j) ∧ i = .int .i64 (j : Nat) ∧ Ext wB wr) (fun _ i _ => r.fl.length - (intOf i).toNat)
      case atStart => exact ⟨0, Nat.zero_le _, rfl, rfl, hX.out⟩
      case round =>
        obtain ⟨j, hj, rfl, rfl, hX2⟩ := hrel
        have q6 : wr.cell? ⟨w.heap.size, 6, none⟩ = some (.slice A r.fl.length c) := (hb.out.ext hX2).cell 6
        have hltb := (hb.out.ext hX2).lt
        have hg1 := hopsUp_ge r.fl a k j
        have hg2 := hopsUp_top hfit.out hl k j
        by_cases hjl : j < r.fl.length
        · obtain ⟨b, o, rfl, c0, c1, c2, c3⟩ := hc.out j hjl
          have hw := hEB.out.trans hX2
          obtain ⟨g1, g2, g3⟩ := hfit.out _ (List.getElem_mem hjl)
          have hnx := Lib.hid (hopsUp_next r.fl a k j hjl)
          obtain ⟨f, hf⟩ : ∃ f, f = r.fl[j] := ⟨_, rfl⟩
          rw [← hf] at c0 c1 c2 c3 g1 g2 g3 hnx
          clear hf
          replace c0 := hw.cell c0
          replace c1 := hw.cell c1
          replace c2 := hw.cell c2
          replace c3 := hw.cell c3
          replace hw := Lib.hid hw
          replace hX2 := Lib.hid hX2
          have hdf := Lib.hid (show hop (hopsUp r.fl a k j) f = if f.x ≤ hopsUp r.fl a k j then max (hopsUp r.fl a k j) (f.x + f.w) else hopsUp r.fl a k j from rfl)
          obtain ⟨x, hx⟩ : ∃ x, x = hopsUp r.fl a k j := ⟨_, rfl⟩
          rw [← hx] at hg1 hg2 hnx hdf ⊢
          clear hx
          have hji : (j : Int) < r.fl.length := by omega
          by_cases hfx : f.x ≤ x
          · have hn := Lib.hid (show hopsUp r.fl a k (j + 1) = max x (f.x + f.w) by rw [hnx.out, hdf.out, if_pos hfx])
            go_wp2
            go_roundw
            case rel => exact ⟨j + 1, by omega, by rw [hn.out], by go_num, hX2.out.alloc _⟩
            case measure => simp [intOf]; omega
          · have hn := Lib.hid (show hopsUp r.fl a k (j + 1) = x by rw [hnx.out, hdf.out, if_neg hfx])
            go_wp2
            go_roundw
            case rel => exact ⟨j + 1, by omega, by rw [hn.out], by go_num, hX2.out.alloc _⟩
            case measure => simp [intOf]; omega
        · have hall := Lib.hid (hopsUp_all r.fl a k j hjl)
          have hji : ¬ (j : Int) < r.fl.length := by omega
          replace hX2 := Lib.hid hX2
          rw [hall.out]
          go_wp2
          go_roundw
          case rel => exact ⟨k + 1, by omega, rfl, by go_num, hX2.out⟩
          case measure => simp [intOf]; omega
    · have hkn : k = r.fl.length := by omega
      have hki : ¬ (k : Int) < r.fl.length := by omega
      replace hX := Lib.hid hX
      go_wp2
      go_ret
      exact ⟨rfl, hEB.out.trans hX.out⟩

set_option maxRecDepth 20000 in
set_option maxHeartbeats 2000000 in
theorem c_next (r : Ro) (fv : Value) (a : Int) (w : World) (h : RdF w fv r.fl) :
    Calls Tryz.prog 42 #[roV r fv, .int .i64 a] w fun e w' => e = .returned (.int .i64 (next r.len r.fl a)) ∧ Ext w w' := by
  obtain ⟨A, c, rfl, hcap, hmax, _, hc⟩ := h
  unfold maxLen at hmax
  replace hc := Lib.hid hc
  unfold roV
  go_enter Tryz.func42, Tryz.ntmps42
  go_wp2
  obtain ⟨wB, hwB⟩ : ∃ wB, wB = w.alloc (.cells (roC r (.slice A r.fl.length c)).toArray 26) := ⟨_, rfl⟩
  have hb := Lib.hid (show Blk wB w.heap.size 26 (roC r (.slice A r.fl.length c)).toArray from hwB ▸ Blk.new w 26 _)
  have hEB := Lib.hid (show Ext w wB from hwB ▸ (Ext.refl w).alloc _)
  unfold roC at hwB
  rw [← hwB]
  clear hwB
  go_loopw [5, 6] (fun x i wr => ∃ j : Nat, j ≤ r.fl.length ∧ x = .int .i64 (nextUp r.len r.fl a j) ∧ i = .int .i64 (j : Nat) ∧ Ext wB wr) (fun _ i _ => r.fl.length - (intOf i).toNat)
  case atStart => exact ⟨0, Nat.zero_le _, rfl, rfl, Ext.refl _⟩
  case round =>
    obtain ⟨j, hj, rfl, rfl, hX2⟩ := hrel
    have q6 : wr.cell? ⟨w.heap.size, 6, none⟩ = some (.slice A r.fl.length c) := (hb.out.ext hX2).cell 6
    have hltb := (hb.out.ext hX2).lt
    by_cases hjl : j < r.fl.length
    · obtain ⟨b, o, rfl, c0, c1, c2, c3⟩ := hc.out j hjl
      have hw := hEB.out.trans hX2
      have hnx := Lib.hid (nextUp_next r.len r.fl a j hjl)
      obtain ⟨f, hf⟩ : ∃ f, f = r.fl[j] := ⟨_, rfl⟩
      rw [← hf] at c0 c1 c2 c3 hnx
      clear hf
      replace c0 := hw.cell c0
      clear c1 c2 c3
      replace hw := Lib.hid hw
      replace hX2 := Lib.hid hX2
      have hdf := Lib.hid (show nextF a (nextUp r.len r.fl a j) f = if a ≤ f.x then min (nextUp r.len r.fl a j) f.x else nextUp r.len r.fl a j from rfl)
      obtain ⟨x, hx⟩ : ∃ x, x = nextUp r.len r.fl a j := ⟨_, rfl⟩
      rw [← hx] at hnx hdf ⊢
      clear hx
      have hji : (j : Int) < r.fl.length := by omega
      by_cases hfx : a ≤ f.x
      · have hn := Lib.hid (show nextUp r.len r.fl a (j + 1) = min x f.x by rw [hnx.out, hdf.out, if_pos hfx])
        go_wp2
        go_roundw
        case rel => exact ⟨j + 1, by omega, by rw [hn.out], by go_num, hX2.out⟩
        case measure => simp [intOf]; omega
      · have hn := Lib.hid (show nextUp r.len r.fl a (j + 1) = x by rw [hnx.out, hdf.out, if_neg hfx])
        go_wp2
        go_roundw
        case rel => exact ⟨j + 1, by omega, by rw [hn.out], by go_num, hX2.out⟩
        case measure => simp [intOf]; omega
    · have hall := Lib.hid (nextUp_all r.len r.fl a j hjl)
      have hji : ¬ (j : Int) < r.fl.length := by omega
      replace hX2 := Lib.hid hX2
      rw [hall.out]
      go_wp2
      go_ret
      exact ⟨rfl, hEB.out.trans hX2.out⟩

/-- what the loop of the reference's Stretches keeps at position lo -/
structure RsUp (r : Ro) (least lo : Int) (zs : List (Int × Int)) (ys : List (Int × Int)) : Prop where
  at_ : RefAt r.len r.fl lo zs
  eq : ys = longer least zs
  len : ys.length ≤ zs.length
  few : 2 * (zs.length : Int) ≤ lo
theorem longer_snoc (least : Int) (zs : List (Int × Int)) (z : Int × Int) : longer least (zs ++ [z]) = longer least zs ++ (if least ≤ z.2 - z.1 then [z] else []) := by
  unfold longer
  rw [List.filter_append]
  congr 1
  by_cases h : least ≤ z.2 - z.1 <;> simp [h]
theorem RsUp.start {r : Ro} (hv : Valid r) (least : Int) : RsUp r least (behind r.fl 0) [] [] :=
  ⟨RefAt.start (by have := hv.len; omega) hv.fits, rfl, by simp, by simpa using behind_le r.fl 0⟩
/-- a round that goes on -/
theorem RsUp.step {r : Ro} {least lo : Int} {zs ys : List (Int × Int)} (hv : Valid r) (h : RsUp r least lo zs ys) (hl : lo < r.len) (hne : next r.len r.fl lo ≠ r.len) {ys' : List (Int × Int)} (hy : ys' = ys ++ (if least ≤ next r.len r.fl lo - lo then [(lo, next r.len r.fl lo)] else [])) :
    ∃ zs', RsUp r least (behind r.fl (next r.len r.fl lo)) zs' ys' := by
  obtain ⟨h1, h2, h3⟩ := h.at_.step hv.fits hl hne
  refine ⟨_, h1, ?_, ?_, ?_⟩
  · rw [hy, longer_snoc, ← h.eq]
  · rw [hy, List.length_append, List.length_append]
    have := h.len
    split <;> simp <;> omega
  · rw [List.length_append]
    have := h.few
    simp; omega
theorem RsUp.last {r : Ro} {least lo : Int} {zs ys : List (Int × Int)} (hv : Valid r) (h : RsUp r least lo zs ys) (hl : lo < r.len) (he : next r.len r.fl lo = r.len) {ys' : List (Int × Int)} (hy : ys' = ys ++ (if least ≤ r.len - lo then [(lo, r.len)] else [])) : ys' = longer least (zones r.len r.fl) := by
  have hg := h.at_.last hl he
  have hz := hg.unique (zones_good (by have := hv.len; omega) hv.fits) (fun _ => Iff.rfl)
  rw [← hz, longer_snoc, hy, ← h.eq]
theorem RsUp.none {r : Ro} {least lo : Int} {zs ys : List (Int × Int)} (hv : Valid r) (h : RsUp r least lo zs ys) (hl : ¬ lo < r.len) : ys = longer least (zones r.len r.fl) := by
  have hg := h.at_.none hl
  have hz := hg.unique (zones_good (by have := hv.len; omega) hv.fits) (fun _ => Iff.rfl)
  rw [← hz, h.eq]

set_option maxRecDepth 20000 in
set_option maxHeartbeats 4000000 in
theorem c_rstretches (r : Ro) (fv : Value) (least : Int) (w : World) (h : RdF w fv r.fl) (hs : r.id.length ≤ 30000) : Calls Tryz.prog 20 #[roV r fv, .int .i64 least] w (StrOut (strP r least) w) := by
  obtain ⟨Af, cf, rfl⟩ := h.slice
  replace h := Lib.hid h
  have hc1 := fun w h => c_rcheck r (.slice Af r.fl.length cf) w h hs
  have hc2 := fun a w h hv h0 hl => c_behind r (.slice Af r.fl.length cf) a w h hv h0 hl
  have hc3 := fun a w h => c_next r (.slice Af r.fl.length cf) a w h
  unfold roV at hc1 hc2 hc3 ⊢
  replace hc1 := Lib.hid hc1
  replace hc2 := Lib.hid hc2
  replace hc3 := Lib.hid hc3
  go_enter Tryz.func20, Tryz.ntmps20
  go_wp2_with fail
  refine (hc1.out _ (h.out.ext ((Ext.refl w).alloc _))).mono ?_
  rintro e w1 ⟨rfl, hx1⟩
  have hb1 := (Blk.new w 26 (roC r (.slice Af r.fl.length cf)).toArray).ext hx1
  have hE1 := Lib.hid (((Ext.refl w).alloc (.cells (roC r (.slice Af r.fl.length cf)).toArray 26)).trans hx1)
  clear hx1
  obtain ⟨q0, q1, q2, q3, q4, q5, q6⟩ := hb1.parts7
  have hlt1 := hb1.lt
  replace hb1 := Lib.hid hb1
  by_cases hck : check r = 0
  rotate_left
  · have hn0 : (check r == 0) = false := by simp; exact hck
    have hst := Lib.hid (strP_bad least hck)
    replace hck := Lib.hid hck
    go_wp2
    go_ret2
    rw [hst.out]
    exact ⟨_, rfl, RdZ.nil _, hE1.out⟩
  · have hst := Lib.hid (strP_ok least hck)
    rw [hck]
    have hv := Lib.hid (check_ok hck)
    have hle := hv.out.len
    replace hck := Lib.hid hck
    go_wp2_with fail
    refine (hc2.out 0 _ (h.out.ext hE1.out) hv.out (by omega) (by omega)).mono ?_
    rintro e w2 ⟨rfl, hx2⟩
    have hx12 := Lib.hid hx2
    clear hx2 q0 q1 q2 q3 q4 q5 q6 hlt1
    have hs0 := Lib.hid (RsUp.start hv.out least)
    go_wp2
    go_loopw [7, 8] (fun v i wr => ∃ (lo : Int) (zs ys : List (Int × Int)), i = .int .i64 lo ∧ RsUp r least lo zs ys ∧ OwnE 45 2 znC w2.heap.size wr v ys ∧ Ext w2 wr) (fun _ i _ => (r.len - intOf i).toNat)
    case atStart => exact ⟨_, [], [], rfl, hs0.out, OwnE.nil _ _ _ _ _, Ext.refl _⟩
    case round =>
      obtain ⟨lo, zs, ys, rfl, hup, hown, hX⟩ := hrel
      obtain ⟨Ay, cy, rfl⟩ := hown.slice
      have hlo0 := hup.at_.lo0
      have hlo1 := hup.at_.top
      have hys : ys.length ≤ 1000000 := by
        have := hup.few; have := hup.len; omega
      have hbr := (hb1.out.ext hx12.out).ext hX
      obtain ⟨q0, q1, q2, q3, q4, q5, q6⟩ := hbr.parts7
      have hltr := hbr.lt
      replace hbr := Lib.hid hbr
      have hEw := Lib.hid ((hE1.out.trans hx12.out).trans hX)
      by_cases hl : lo < r.len
      · have hge := next_ge r.fl r.len lo hlo1
        have hnl := next_le r.fl r.len lo
        have hlt' : lo < next r.len r.fl lo := by
          by_cases he : next r.len r.fl lo = r.len
          · omega
          · exact (hup.at_.step hv.out.fits hl he).2.1
        have hgo := Lib.hid (fun hne ys' hy => hup.step hv.out hl hne (ys' := ys') hy)
        have hla := Lib.hid (fun he ys' hy => hup.last hv.out hl he (ys' := ys') hy)
        have hbl := Lib.hid (behind_le r.fl (next r.len r.fl lo))
        obtain ⟨hi, hhi⟩ : ∃ hi, hi = next r.len r.fl lo := ⟨_, rfl⟩
        have hcon := hc3.out lo wr (h.out.ext hEw.out)
        rw [← hhi] at hge hnl hlt' hgo hla hcon hbl
        clear hhi
        replace hup := Lib.hid hup
        go_wp2_with fail
        refine hcon.mono ?_
        rintro e w3 ⟨rfl, hx3⟩
        have hX3 := Lib.hid (hX.trans hx3)
        have hown3 := Lib.hid (hown.ext hx3)
        clear hcon hX hown hx3 q0 q1 q2 q3 q4 q5 q6 hltr hbr hEw
        have hb3 := Lib.hid ((hb1.out.ext hx12.out).ext hX3.out)
        obtain ⟨q0, q1, q2, q3, q4, q5, q6⟩ := hb3.out.parts7
        have hlt3 := hb3.out.lt
        by_cases he : hi = r.len
        · have hbe : (hi == r.len) = true := by simp [he]
          by_cases h2 : least ≤ hi - lo
          · have hd := Lib.hid (hla.out he (ys ++ [(lo, hi)]) (by rw [if_pos (by rw [← he]; exact h2), he]))
            replace he := Lib.hid he
            go_wp2_with (at_builtin; refine wpList_appE (α := Int × Int) rfl (.tmp 34) (.tmp 38) 39 rfl 45 2 w2.heap.size 16 _ znC Tryz.underlying39 info_zone rfl (by decide) (by decide) znC_len znC_one _ ys (lo, hi) w3.heap.size 1 rfl (hown3.out.alloc _) rfl (Blk.cells_of (Blk.at rfl)) hys (by have := hX3.out.size; simp; omega) ?_; intro A6 c6 w6 ho6 hg6 _; have hx6 := Lib.hid ((hown3.out.alloc (.cells (znC (lo, hi)).toArray 45)).extGrown (hX3.out.alloc _) (Nat.le_refl _) hg6); have hb6 := Lib.hid ((hb1.out.ext hx12.out).ext hx6.out); obtain ⟨s0, s1, s2, s3, s4, s5, s6⟩ := hb6.out.parts7; have hlt6 := hb6.out.lt; replace ho6 := Lib.hid ho6; replace hg6 := Lib.hid hg6)
            go_ret2
            rw [hst.out, ← hd.out]
            exact ⟨_, rfl, ho6.out.rdZ, (hE1.out.trans hx12.out).trans hx6.out⟩
          · have hd := Lib.hid (hla.out he ys (by rw [if_neg (by rw [← he]; exact h2), List.append_nil]))
            go_wp2
            go_ret2
            rw [hst.out, ← hd.out]
            exact ⟨_, rfl, hown3.out.rdZ, (hE1.out.trans hx12.out).trans hX3.out⟩
        · have hbe : (hi == r.len) = false := by simp [he]
          by_cases h2 : least ≤ hi - lo
          · obtain ⟨zs', hup2⟩ := hgo.out he (ys ++ [(lo, hi)]) (by rw [if_pos h2])
            replace hup2 := Lib.hid hup2
            go_wp2_with (at_builtin; refine wpList_appE (α := Int × Int) rfl (.tmp 34) (.tmp 38) 39 rfl 45 2 w2.heap.size 16 _ znC Tryz.underlying39 info_zone rfl (by decide) (by decide) znC_len znC_one _ ys (lo, hi) w3.heap.size 1 rfl (hown3.out.alloc _) rfl (Blk.cells_of (Blk.at rfl)) hys (by have := hX3.out.size; simp; omega) ?_; intro A6 c6 w6 ho6 hg6 _; have hx6 := Lib.hid ((hown3.out.alloc (.cells (znC (lo, hi)).toArray 45)).extGrown (hX3.out.alloc _) (Nat.le_refl _) hg6); have hb6 := Lib.hid ((hb1.out.ext hx12.out).ext hx6.out); obtain ⟨s0, s1, s2, s3, s4, s5, s6⟩ := hb6.out.parts7; have hlt6 := hb6.out.lt; replace ho6 := Lib.hid ho6; replace hg6 := Lib.hid hg6)
            refine (hc2.out hi _ (h.out.ext ((hE1.out.trans hx12.out).trans hx6.out)) hv.out (by omega) hnl).mono ?_
            rintro e w7 ⟨rfl, hx7⟩
            replace hx7 := Lib.hid hx7
            have hlt7 : lo < behind r.fl hi := by have := hbl.out; omega
            go_wp2
            go_roundw
            case rel => exact ⟨_, zs', ys ++ [(lo, hi)], rfl, hup2.out, ho6.out.ext hx7.out, hx6.out.trans hx7.out⟩
            case measure => simp [intOf]; omega
          · obtain ⟨zs', hup2⟩ := hgo.out he ys (by rw [if_neg h2, List.append_nil])
            replace hup2 := Lib.hid hup2
            go_wp2_with fail
            refine (hc2.out hi _ (h.out.ext ((hE1.out.trans hx12.out).trans hX3.out)) hv.out (by omega) hnl).mono ?_
            rintro e w7 ⟨rfl, hx7⟩
            replace hx7 := Lib.hid hx7
            have hlt7 : lo < behind r.fl hi := by have := hbl.out; omega
            go_wp2
            go_roundw
            case rel => exact ⟨_, zs', ys, rfl, hup2.out, hown3.out.ext hx7.out, hX3.out.trans hx7.out⟩
            case measure => simp [intOf]; omega
      · have hd := Lib.hid (hup.none hv.out hl)
        replace hown := Lib.hid hown
        replace hX := Lib.hid hX
        replace hup := Lib.hid hup
        go_wp2
        go_ret2
        rw [hst.out, ← hd.out]
        exact ⟨_, rfl, hown.out.rdZ, hEw.out⟩

end Go.Proofs.YtphaigncbenmmaaGreatDoor
