/- Parse of the reference. -/
import Derived.Test.YtphaigncbenmmaaGreatDoorPar
import Derived.Test.YtphaigncbenmmaaGreatDoorRpn
import Derived.Test.YtphaigncbenmmaaGreatDoorRpr
namespace Go.Proofs.YtphaigncbenmmaaGreatDoor
open Go Go.RowKit

set_option maxRecDepth 20000 in
set_option maxHeartbeats 4000000 in
theorem c_rParse (s : ByteArray) (w : World) (hs : s.size ≤ 9223372036854775807) : Calls Tryz.prog 14 #[.string s] w (ParOut (parse (bs s)) w) := by
  go_enter Tryz.func14, Tryz.ntmps14
  by_cases h20 : 20000 < s.size
  · go_wp2
    go_ret3
    exact ParOut.err (n := 0) (by unfold parse; rw [bs_len, if_pos h20]) (Ext.refl w)
  · have hp0 := Lib.hid (show parse (bs s) = goP 0 [] (cuts 10 (bs s)) by unfold parse; rw [bs_len, if_neg h20])
    go_wp2_with fail
    refine (c_rsplit 10 10 rfl s _ (by omega)).mono ?_
    rintro e w1 ⟨v, ws, rfl, hrd, hws, hx1⟩
    rw [← hws] at hp0
    have hl30 : ws.length ≤ 30001 := by
      have h1 : ws.length = (cuts 10 (bs s)).length := by rw [← hws, List.length_map]
      rw [h1, cuts_length]
      have := List.count_le_length (a := (10 : UInt8)) (l := bs s)
      rw [bs_len] at this
      omega
    have hsz := Lib.hid (show ∀ x ∈ ws, x.size ≤ 30000 from fun x hx => by
      have h1 : bs x ∈ cuts 10 (bs s) := by rw [← hws]; exact List.mem_map.2 ⟨x, hx, rfl⟩
      have := cuts_short _ _ h1
      rw [bs_len, bs_len] at this
      omega)
    obtain ⟨A, c, rfl, hcap, hmax, hc⟩ := hrd
    unfold maxLen at hmax
    replace hc := Lib.hid hc
    replace hx1 := Lib.hid hx1
    clear hws
    go_wp2
    go_loopw [6, 7] (fun v i wr => ∃ (k : Nat) (ps : List (Ro × Option Addr × Nat)), i = .int .i64 (k : Nat) ∧ ParAt ws w1 wr v k ps) (fun _ i _ => ws.length - (intOf i).toNat)
    case atStart => exact ⟨0, [], rfl, Nat.zero_le _, ParUp.start _, OwnE.nil _ _ _ _ _, fun _ h => (by cases h), Ext.refl _⟩
    case round =>
      obtain ⟨k, ps, rfl, hat⟩ := hrel
      obtain ⟨Ap, cp, rfl⟩ := hat.own.slice
      have hk := hat.le
      have hf20 : ps.length ≤ 20 := by have := hat.up.few; simpa using this
      by_cases hlt : k < ws.length
      · obtain ⟨b, o, rfl, c0⟩ := hc.out k hlt
        replace c0 := hat.ext.cell c0
        have hlm : k < (ws.map bs).length := by rw [List.length_map]; exact hlt
        have hgm : (ws.map bs)[k] = bs ws[k] := List.getElem_map _
        have hskip := Lib.hid (fun h => hat.up.skip hlm h)
        have hfull := Lib.hid (fun h1 h2 => hat.up.full hlm h1 h2)
        have hbad := Lib.hid (fun h1 h2 h3 => hat.up.bad hlm h1 h2 h3)
        have hchk := Lib.hid (fun ro h1 h2 h3 h4 => hat.up.chk (ro := ro) hlm h1 h2 h3 h4)
        have htw := Lib.hid (fun ro h1 h2 h3 h4 h5 => hat.up.twice (ro := ro) hlm h1 h2 h3 h4 h5)
        have hnx := Lib.hid (fun ro h1 h2 h3 h4 h5 => hat.up.next (ro := ro) hlm h1 h2 h3 h4 h5)
        rw [hgm] at hskip hfull hbad hchk htw hnx
        rw [List.length_map] at hfull hbad hchk htw hnx
        have hsk := hsz.out _ (List.getElem_mem hlt)
        obtain ⟨t, htd⟩ : ∃ t, t = ws[k] := ⟨_, rfl⟩
        rw [← htd] at c0 hskip hfull hbad hchk htw hnx hsk
        clear htd hgm hlm
        have hEw := Lib.hid (hx1.out.trans hat.ext)
        have hki : (k : Int) < ws.length := by omega
        by_cases h0 : bs t = []
        · obtain ⟨t1, t2⟩ := str_empty h0
          have hup2 := Lib.hid (hskip.out h0)
          replace hat := Lib.hid hat
          go_wp2
          go_roundw
          case rel => exact ⟨k + 1, ps, by go_num, hlt, hup2.out, hat.out.own, hat.out.fls, hat.out.ext⟩
          case measure => simp [intOf]; omega
        · obtain ⟨t1, t2⟩ := str_full h0
          by_cases hn : ps.length = 20
          · have hq := Lib.hid (hfull.out h0 hn)
            have hb20 : (ps.length == 20) = true := by simp [hn]
            replace hat := Lib.hid hat
            go_wp2
            go_ret3
            have := ParOut.err (n := k + 1) (hp0.out.trans hq.out) hEw.out
            simpa using this
          · have hb20 : (ps.length == 20) = false := by simp [hn]
            have hi20 : ¬ (ps.length : Int) = 20 := by omega
            have hrdps := Lib.hid hat.rd
            replace hat := Lib.hid hat
            go_wp2_with fail
            refine (c_rparse t wr hsk).mono ?_
            rintro e w2 ⟨hx2, ⟨hln, rfl⟩ | ⟨r, fv, hln, rfl, hfo, hfi, hid⟩⟩
            · have hq := Lib.hid (hbad.out h0 hn hln)
              have hE2 := Lib.hid (hEw.out.trans hx2)
              replace hx2 := Lib.hid hx2
              unfold zeroR
              go_wp2
              go_ret3
              have := ParOut.err (n := k + 1) (hp0.out.trans hq.out) (hE2.out.alloc (.cells zeroR 26))
              simpa [zeroR] using this
            · obtain ⟨Af, cf, rfl⟩ := hfo.slice
              have hE2 := Lib.hid (hEw.out.trans hx2)
              have hX2 := Lib.hid hx2
              clear hx2
              have hrf2 := Lib.hid (hfo.rdF hfi)
              replace hfo := Lib.hid hfo
              replace hfi := Lib.hid hfi
              unfold roV
              go_wp2_with fail
              refine (c_rcheck r (.slice Af r.fl.length cf) _ (hrf2.out.ext ((Ext.refl w2).alloc _)) hid).mono ?_
              rintro e w3 ⟨rfl, hx3⟩
              have hb3 := Lib.hid ((Blk.new w2 26 (roC r (.slice Af r.fl.length cf)).toArray).ext hx3)
              have hW3 := Lib.hid (((Ext.refl w2).alloc (.cells (roC r (.slice Af r.fl.length cf)).toArray 26)).trans hx3)
              clear hx3
              by_cases hck : check r = 0
              rotate_left
              · have hn0 : (check r == 0) = false := by simp; exact hck
                have hq := Lib.hid (hchk.out r h0 hn hln hck)
                replace hck := Lib.hid hck
                replace hln := Lib.hid hln
                go_wp2
                go_ret3
                have := ParOut.err (n := k + 1) (hp0.out.trans hq.out) (hE2.out.trans hW3.out)
                simpa using this
              · rw [hck]
                replace hck := Lib.hid hck
                replace hln := Lib.hid hln
                have q0 : w3.cell? ⟨w2.heap.size, 0, none⟩ = some (.string (ofB r.id)) := hb3.out.cell 0
                have hlt3 := hb3.out.lt
                go_wp2_with fail
                obtain ⟨hb, hhb⟩ : ∃ hb, hb = has (ps.map (·.1)) r.id := ⟨_, rfl⟩
                have hcon := c_named _ (ps.map (·.1)) ps.length (ofB r.id) w3 (hrdps.out.ext (hX2.out.trans hW3.out)) (by rw [List.length_map]; exact Nat.le_refl _)
                rw [bs_ofB, List.take_of_length_le (by rw [List.length_map]; exact Nat.le_refl _), ← hhb] at hcon
                refine hcon.mono ?_
                rintro e w4 ⟨rfl, rfl⟩
                clear hcon
                have hx4 := Ext.refl w4
                have hb4 := hb3.out.ext hx4
                have hW4 := Lib.hid (hX2.out.trans (hW3.out.trans hx4))
                have h24 := Lib.hid (hW3.out.trans hx4)
                clear q0 hlt3 hx4
                obtain ⟨q0, q1, q2, q3, q4, q5, q6⟩ := hb4.parts7
                have hlt4 := hb4.lt
                replace hb4 := Lib.hid hb4
                rcases hb with _ | _
                all_goals have hh := hhb.symm
                all_goals replace hhb := Lib.hid hhb
                rotate_left
                · have hq := Lib.hid (htw.out r h0 hn hln.out hck.out hh)
                  replace hh := Lib.hid hh
                  go_wp2
                  go_ret3
                  have := ParOut.err (n := k + 1) (hp0.out.trans hq.out) (hEw.out.trans hW4.out)
                  simpa using this
                · have hup2 := Lib.hid (hnx.out r h0 hn hln.out hck.out hh)
                  replace hh := Lib.hid hh
                  have hown4 := Lib.hid (hat.out.own.ext hW4.out)
                  have hB4 := Lib.hid (show w1.heap.size ≤ w4.heap.size from Nat.le_trans hat.out.ext.size hW4.out.size)
                  have hps1 : ps.length ≤ 1000000 := by omega
                  go_wp2_with (at_builtin; refine wpList_appE (α := Ro × Option Addr × Nat) rfl (.tmp 59) (.tmp 61) 31 rfl 26 7 w1.heap.size 80 _ rqC Tryz.underlying31 info_roll rfl (by decide) (by decide) rqC_len rqC_one _ ps (r, Af, cf) w4.heap.size 1 rfl (hown4.out.alloc _) rfl (Blk.cellsQ (Blk.at rfl)) hps1 (by have := hB4.out; simp; omega) ?_; intro A6 c6 w6 ho6 hg6 _)
                  go_roundw
                  case rel =>
                    refine ⟨k + 1, ps ++ [(r, Af, cf)], by go_num, hlt, by rw [List.map_append]; exact hup2.out, ho6, fun p hp => ?_, (hown4.out.alloc _).extGrown ((hat.out.ext.trans hW4.out).alloc _) (Nat.le_refl _) hg6⟩
                    rcases List.mem_append.1 hp with hp | hp
                    · have h1 := (hat.out.fls p hp).1.ext hW4.out
                      exact ⟨(h1.alloc _).kept hg6 (rows_ne h1 hown4.out (by decide)), (hat.out.fls p hp).2⟩
                    · rw [List.mem_singleton] at hp
                      subst hp
                      have h1 := (hfo.out.mono (Nat.le_trans (Nat.le_refl _) hat.out.ext.size)).ext h24.out
                      exact ⟨(h1.alloc _).kept hg6 (rows_ne h1 hown4.out (by decide)), hfi.out⟩
                  case measure => simp [intOf]; omega
      · have hd := Lib.hid (hat.up.done (by rw [List.length_map]; exact hlt))
        have hrdl := Lib.hid hat.rd
        have hEw := Lib.hid (hx1.out.trans hat.ext)
        replace hat := Lib.hid hat
        go_wp2
        go_ret3
        rw [hp0.out, hd.out]
        exact ⟨_, rfl, hrdl.out, hEw.out⟩

end Go.Proofs.YtphaigncbenmmaaGreatDoor
