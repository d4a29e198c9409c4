/- inRange of the reference. -/
import Derived.Test.YtmbjlbmfagfneaaDoorRnm
namespace Go.Proofs.YtmbjlbmfagfneaaDoor
open Go Go.RowKit

theorem all_size_hit {l : List Int} {k : Nat} (h : k < l.length) (h1 : inR 0 1048576 l[k] = false) : l.all (inR 0 1048576) = false := by
  cases e : l.all (inR 0 1048576) with
  | false => rfl
  | true => rw [List.all_eq_true.1 e _ (List.getElem_mem h)] at h1; cases h1
theorem all_size_snoc {l : List Int} {k : Nat} (h : k < l.length) (h0 : (l.take k).all (inR 0 1048576) = true) (h1 : inR 0 1048576 l[k] = true) : (l.take (k + 1)).all (inR 0 1048576) = true := by
  rw [take_snoc l k h, List.all_append, h0]
  simp [h1]
/-- the first k sizes are in range -/
structure SizUp (m : Mk) (k : Nat) : Prop where
  all : (m.sizes.take k).all (inR 0 1048576) = true

set_option maxHeartbeats 1000000 in
theorem c_rinRange (m : Mk) (v : Value) (w : World) (hm : RdM w v m) : Calls Tryd.prog 24 #[v] w fun e w' => e = .returned (.bool (mkOk m)) ∧ Ext w w' := by
  obtain ⟨sv, pv, rfl, hsv, hpv⟩ := hm
  obtain ⟨As, cs, rfl, hs1, hs2, hsc⟩ := hsv
  obtain ⟨Ap, cp, rfl, hp1, hp2, hpc⟩ := hpv
  unfold maxLen at hs2 hp2
  replace hsc := Lib.hid hsc
  replace hpc := Lib.hid hpc
  unfold mkV
  go_enter Tryd.func24, Tryd.ntmps24
  go_wp2_with fail
  refine (c_rwithin _ _ _ _).mono ?_
  rintro e w1 ⟨rfl, rfl⟩
  rcases hlen : inR 0 1048576 m.len with _ | _
  · go_wp2
    go_ret
    exact ⟨ret_bool (by unfold mkOk headOk; rw [hlen]; simp), (Ext.refl w).alloc _⟩
  have xlen := Lib.hid hlen
  replace hlen := Lib.hid hlen
  go_wp2_with fail
  refine (c_rwithin _ _ _ _).mono ?_
  rintro e w2 ⟨rfl, rfl⟩
  rcases hwid : inR 0 1048576 m.wid with _ | _
  · go_wp2
    go_ret
    exact ⟨ret_bool (by unfold mkOk headOk; rw [hwid]; simp), (Ext.refl w).alloc _⟩
  have xwid := Lib.hid hwid
  replace hwid := Lib.hid hwid
  go_wp2_with fail
  refine (c_rwithin _ _ _ _).mono ?_
  rintro e w3 ⟨rfl, rfl⟩
  rcases hrx : inR 0 1048576 m.rx with _ | _
  · go_wp2
    go_ret
    exact ⟨ret_bool (by unfold mkOk headOk; rw [hrx]; simp), (Ext.refl w).alloc _⟩
  have xrx := Lib.hid hrx
  replace hrx := Lib.hid hrx
  go_wp2_with fail
  refine (c_rwithin _ _ _ _).mono ?_
  rintro e w4 ⟨rfl, rfl⟩
  rcases hry : inR 0 1048576 m.ry with _ | _
  · go_wp2
    go_ret
    exact ⟨ret_bool (by unfold mkOk headOk; rw [hry]; simp), (Ext.refl w).alloc _⟩
  have hhead := Lib.hid (show headOk m.len m.wid m.rx m.ry = true by unfold headOk; rw [hlen.out, hwid.out, hrx.out, hry]; rfl)
  clear xlen xwid xrx
  replace hry := Lib.hid hry
  go_wp2
  obtain ⟨w1, hw1⟩ : ∃ w1, w1 = w.alloc (.cells (mkA m (.slice As m.sizes.length cs) (.slice Ap m.places.length cp)) 27) := ⟨_, rfl⟩
  have hb := Lib.hid (show Blk w1 w.heap.size 27 (mkA m (.slice As m.sizes.length cs) (.slice Ap m.places.length cp)) from hw1 ▸ Blk.new w 27 _)
  have hE := Lib.hid (show Ext w w1 from hw1 ▸ (Ext.refl w).alloc _)
  unfold mkA at hw1
  rw [← hw1]
  clear hw1
  go_loopw [3] (fun i wr => ∃ k : Nat, k ≤ m.sizes.length ∧ i = .int .i64 (k : Nat) ∧ SizUp m k ∧ Ext w1 wr) (fun i _ => m.sizes.length - (intOf i).toNat)
  case atStart => exact ⟨0, Nat.zero_le _, rfl, ⟨by simp⟩, Ext.refl _⟩
  case round =>
    obtain ⟨k, hk, rfl, hup, hX⟩ := hrel
    have q4 := hX.cell (hb.out.parts6.1.2.2.2.2.1)
    by_cases hlt : k < m.sizes.length
    · obtain ⟨b, o, rfl, c0⟩ := hsc.out k hlt
      replace c0 := (hE.out.trans hX).cell c0
      replace hX := Lib.hid hX
      go_wp2_with fail
      refine (c_rwithin _ _ _ _).mono ?_
      rintro e w2 ⟨rfl, rfl⟩
      rcases hz : inR 0 1048576 m.sizes[k] with _ | _
      · go_wp2
        go_ret
        exact ⟨ret_bool (by unfold mkOk; rw [all_size_hit hlt hz]; simp), hE.out.trans hX.out⟩
      · have hup2 := Lib.hid (all_size_snoc hlt hup.all hz)
        replace hz := Lib.hid hz
        go_wp2
        go_roundw
        case rel => exact ⟨k + 1, by omega, by go_num, ⟨hup2.out⟩, hX.out⟩
        case measure => simp [intOf]; omega
    · have hall := Lib.hid (show m.sizes.all (inR 0 1048576) = true by
        have := hup.all
        rw [List.take_of_length_le (by omega)] at this; exact this)
      go_wp2_with fail
      replace hX := Lib.hid hX
      clear q4
      go_loopw [4] (fun i wr' => ∃ k : Nat, k ≤ m.places.length ∧ i = .int .i64 (k : Nat) ∧ PriUp m k ∧ Ext w1 wr') (fun i _ => m.places.length - (intOf i).toNat)
      case atStart => exact ⟨0, Nat.zero_le _, rfl, ⟨by simp⟩, hX.out⟩
      case round =>
        obtain ⟨k2, hk2, rfl, hup2, hX2⟩ := hrel
        have q5 := hX2.cell (hb.out.parts6.1.2.2.2.2.2)
        by_cases hlt2 : k2 < m.places.length
        · obtain ⟨b, o, rfl, c0, c1, c2, c3, c4, c5, c6⟩ := hpc.out k2 hlt2
          have hw := hE.out.trans hX2
          replace c0 := hw.cell c0
          replace c1 := hw.cell c1
          replace c2 := hw.cell c2
          replace c3 := hw.cell c3
          replace c4 := hw.cell c4
          replace c5 := hw.cell c5
          replace c6 := hw.cell c6
          replace hw := Lib.hid hw
          obtain ⟨p, hp⟩ : ∃ p, p = m.places[k2] := ⟨_, rfl⟩
          rw [← hp] at c0 c1 c2 c3 c4 c5 c6
          replace hp := Lib.hid hp
          replace hX2 := Lib.hid hX2
          go_wp2_with fail
          refine (c_rwithin _ _ _ _).mono ?_
          rintro e w3 ⟨rfl, rfl⟩
          rcases hg : inR 0 1048576 p.g with _ | _
          · go_wp2
            go_ret
            refine ⟨ret_bool ?_, hw.out.alloc _⟩
            unfold mkOk
            rw [all_pl_hit hlt2 (by rw [← hp.out]; unfold plOk; rw [hg]; simp)]; simp
          replace hg := Lib.hid hg
          go_wp2_with fail
          refine (c_rwithin _ _ _ _).mono ?_
          rintro e w4 ⟨rfl, rfl⟩
          rcases hu : inR 0 1048576 p.u with _ | _
          · go_wp2
            go_ret
            refine ⟨ret_bool ?_, hw.out.alloc _⟩
            unfold mkOk
            rw [all_pl_hit hlt2 (by rw [← hp.out]; unfold plOk; rw [hu]; simp)]; simp
          replace hu := Lib.hid hu
          go_wp2_with fail
          refine (c_rwithin _ _ _ _).mono ?_
          rintro e w5 ⟨rfl, rfl⟩
          rcases hc : inR 0 1048576 p.c with _ | _
          · go_wp2
            go_ret
            refine ⟨ret_bool ?_, hw.out.alloc _⟩
            unfold mkOk
            rw [all_pl_hit hlt2 (by rw [← hp.out]; unfold plOk; rw [hc]; simp)]; simp
          replace hc := Lib.hid hc
          go_wp2_with fail
          refine (c_rwithin _ _ _ _).mono ?_
          rintro e w6 ⟨rfl, rfl⟩
          rcases hq : inR 0 3 p.q with _ | _
          · go_wp2
            go_ret
            refine ⟨ret_bool ?_, hw.out.alloc _⟩
            unfold mkOk
            rw [all_pl_hit hlt2 (by rw [← hp.out]; unfold plOk; rw [hq]; simp)]; simp
          replace hq := Lib.hid hq
          go_wp2_with fail
          refine (c_rwithin _ _ _ _).mono ?_
          rintro e w7 ⟨rfl, rfl⟩
          rcases hx : inR (-1048576) 1048576 p.x with _ | _
          · go_wp2
            go_ret
            refine ⟨ret_bool ?_, hw.out.alloc _⟩
            unfold mkOk
            rw [all_pl_hit hlt2 (by rw [← hp.out]; unfold plOk; rw [hx]; simp)]; simp
          replace hx := Lib.hid hx
          go_wp2_with fail
          refine (c_rwithin _ _ _ _).mono ?_
          rintro e w8 ⟨rfl, rfl⟩
          rcases hy : inR (-1048576) 1048576 p.y with _ | _
          · go_wp2
            go_ret
            refine ⟨ret_bool ?_, hw.out.alloc _⟩
            unfold mkOk
            rw [all_pl_hit hlt2 (by rw [← hp.out]; unfold plOk; rw [hy]; simp)]; simp
          replace hy := Lib.hid hy
          have hok := Lib.hid (show plOk p = true by unfold plOk; rw [hg.out, hu.out, hc.out, hq.out, hx.out, hy.out]; rfl)
          have hup3 := Lib.hid (all_pl_snoc hlt2 hup2.all (by rw [← hp.out]; exact hok.out))
          go_wp2
          go_roundw
          case rel => exact ⟨k2 + 1, by omega, by go_num, ⟨hup3.out⟩, hX2.out.alloc _⟩
          case measure => simp [intOf]; omega
        · have hpl := Lib.hid (show m.places.all plOk = true by
            have := hup2.all
            rw [List.take_of_length_le (by omega)] at this; exact this)
          replace hX2 := Lib.hid hX2
          go_wp2
          go_ret
          exact ⟨ret_bool (by unfold mkOk; rw [hhead.out, hall.out, hpl.out]; rfl), hE.out.trans hX2.out⟩

end Go.Proofs.YtmbjlbmfagfneaaDoor
