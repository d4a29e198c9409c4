/- Stretches of the program. -/
import Derived.Test.YtphaigncbenmmaaGreatDoorSrt
import Derived.Test.YtphaigncbenmmaaGreatDoorChk
import Derived.Test.YtphaigncbenmmaaGreatDoorApp
namespace Go.Proofs.YtphaigncbenmmaaGreatDoor
open Go Go.RowKit

/-- how Stretches ends -/
def StrOut (o : List (Int × Int) × Int) (w : World) (e : Ending) (w' : World) : Prop := ∃ v, e = .returned (.tuple #[v, .int .i64 o.2]) ∧ RdZ w' v o.1 ∧ Ext w w'
theorem StrOut.open_ {o : List (Int × Int) × Int} {zs : List (Int × Int)} {c : Int} {w w' : World} {e : Ending} (h : StrOut o w e w') (ho : o = (zs, c)) : ∃ A cap, e = .returned (.tuple #[.slice A zs.length cap, .int .i64 c]) ∧ RdZ w' (.slice A zs.length cap) zs ∧ Ext w w' := by
  subst ho
  obtain ⟨v, rfl, h1, h2⟩ := h
  have h1' := h1
  obtain ⟨A, cap, rfl, _⟩ := h1
  exact ⟨A, cap, rfl, h1', h2⟩
theorem Blk.cells_of {α : Type} {w : World} {g : Nat} {t : TypeId} {enc : α → List Value} {y : α} {k : Nat} (h : Blk w g t (enc y).toArray) : ∀ i, i < k → w.cell? ⟨g, i, none⟩ = (enc y)[i]? := fun i _ => by
  rw [h.cell]; simp

/-- what the sweep reads of each flaw -/
theorem sweep_range {r : Ro} (h : check r = 0) {q : List Fl} (hp : q.Perm r.fl) : ∀ f ∈ q ++ [⟨r.len, 0, 0, 0⟩], 0 ≤ f.x ∧ f.x ≤ 1048576 ∧ 0 ≤ f.w ∧ f.x + f.w ≤ 1048576 := by
  intro f hf
  have hv := check_ok h
  have hl := hv.len
  rcases List.mem_append.1 hf with hf | hf
  · have := hv.fits f (hp.mem_iff.1 hf)
    omega
  · rw [List.mem_singleton] at hf
    subst hf
    simp; omega

set_option maxHeartbeats 1000000 in
theorem c_stretches (r : Ro) (fv : Value) (least : Int) (w : World) (h : RdF w fv r.fl) (hs : r.id.length ≤ 30000) : Calls Tryz.prog 19 #[roV r fv, .int .i64 least] w (StrOut (strP r least) w) := by
  obtain ⟨Af, cf, rfl⟩ := h.slice
  replace h := Lib.hid h
  unfold roV
  go_enter Tryz.func19, Tryz.ntmps19
  go_wp2_with fail
  refine (c_check r _ _ (h.out.ext ((Ext.refl w).alloc _)) hs).mono ?_
  rintro e w1 ⟨rfl, hx1⟩
  have hb1 := Lib.hid ((Blk.new w 26 (roC r (.slice Af r.fl.length cf)).toArray).ext hx1)
  have hE1 := Lib.hid (((Ext.refl w).alloc (.cells (roC r (.slice Af r.fl.length cf)).toArray 26)).trans hx1)
  clear hx1
  by_cases hck : check r = 0
  rotate_left
  · have hn0 : (check r == 0) = false := by simp; exact hck
    have hst := Lib.hid (strP_bad least hck)
    replace hck := Lib.hid hck
    go_wp2
    go_ret2
    rw [hst.out]
    exact ⟨_, rfl, RdZ.nil _, hE1.out⟩
  · have hst := Lib.hid (strP_ok least hck)
    rw [hck]
    have hfl20 := Lib.hid (check_ok hck).few
    replace hck := Lib.hid hck
    have q6 : w1.cell? ⟨w.heap.size, 6, none⟩ = some (.slice Af r.fl.length cf) := hb1.out.cell 6
    have hlt1 := hb1.out.lt
    go_wp2_with fail
    refine (l_clone _ r.fl _ (h.out.ext hE1.out) (by have := hfl20.out; omega)).mono ?_
    rintro e w2 ⟨v2, rfl, hown2, hx2⟩
    clear q6 hlt1
    obtain ⟨A2, c2, rfl⟩ := hown2.slice
    replace hown2 := Lib.hid hown2
    replace hx2 := Lib.hid hx2
    go_wp2_with fail
    refine (l_sort _ r.fl w1.heap.size _ hown2.out (by have := hfl20.out; omega)).mono ?_
    rintro e w3 ⟨rfl, q, hp, hsr, hown3, hg3⟩
    have hx3 := Lib.hid (hown2.out.extGrown hx2.out (Nat.le_refl _) hg3)
    have hqn : q.length = r.fl.length := hp.length_eq
    have hb3 := Lib.hid (hb1.out.ext hx3.out)
    have q2 : w3.cell? ⟨w.heap.size, 2, none⟩ = some (.int .i64 r.len) := hb3.out.cell 2
    have hlt3 := hb3.out.lt
    have hrg := Lib.hid (sweep_range hck.out hp)
    have hsz := Lib.hid (sweepL_zones least hck.out hp hsr)
    clear hg3 hp hsr hown2
    replace hown3 := Lib.hid hown3
    have hs3 := Lib.hid hx3.out.size
    have hq20 := Lib.hid (show q.length ≤ 20 by rw [hqn]; exact hfl20.out)
    rw [← hqn]
    rw [← hqn] at hown3
    clear hqn
    go_wp2_with (at_builtin; refine wpList_appE (α := Fl) rfl (.tmp 22) (.tmp 26) 24 rfl 47 4 w1.heap.size 32 _ flC Tryz.underlying24 info_rect rfl (by decide) (by decide) flC_len flC_one _ q ⟨r.len, 0, 0, 0⟩ w3.heap.size 1 rfl (hown3.out.alloc _) rfl (Blk.cells_of (Blk.at rfl)) (by have := hq20.out; omega) (by have := hs3.out; simp; omega) ?_; intro A4 c4 w4 ho4 hg4 _)
    have hx4 := Lib.hid ((hown3.out.alloc (.cells (flC ⟨r.len, 0, 0, 0⟩).toArray 47)).extGrown (hx3.out.alloc _) (Nat.le_refl _) hg4)
    obtain ⟨A4', c4', e4, hc4, hm4, hcs⟩ := ho4.cells flC_len (by omega)
    injection e4 with e5 _ e6
    subst e5 e6
    unfold maxLen at hm4
    have hEw := Lib.hid (hE1.out.trans hx4.out)
    clear hg4 ho4 q2 hlt3
    obtain ⟨fs, hfs⟩ : ∃ fs, fs = q ++ [⟨r.len, 0, 0, 0⟩] := ⟨_, rfl⟩
    rw [← hfs] at hrg hsz
    have hn : fs.length = q.length + 1 := by rw [hfs]; simp
    have hcs : ∀ j (h : j < fs.length), ∃ b o, A4 = some ⟨b, o, none⟩ ∧ w4.cell? ⟨b, o + j * 4, none⟩ = some (.int .i64 fs[j].x) ∧ w4.cell? ⟨b, o + j * 4 + 1, none⟩ = some (.int .i64 fs[j].y) ∧ w4.cell? ⟨b, o + j * 4 + 2, none⟩ = some (.int .i64 fs[j].w) ∧ w4.cell? ⟨b, o + j * 4 + 3, none⟩ = some (.int .i64 fs[j].h) := by
      subst hfs
      intro j hj
      obtain ⟨b, o, e, hc⟩ := hcs j hj
      exact ⟨b, o, e, hc 0 (by omega), hc 1 (by omega), hc 2 (by omega), hc 3 (by omega)⟩
    replace hcs := Lib.hid hcs
    have hn21 : fs.length ≤ 21 := by have := hq20.out; omega
    rw [← hn]
    clear hfs hm4 hc4
    replace hn := Lib.hid hn
    go_wp2
    go_loopw [8, 9, 30] (fun v c i wr => ∃ (k : Nat) (cc : Int) (zs : List (Int × Int)), k ≤ fs.length ∧ i = .int .i64 (k : Nat) ∧ c = .int .i64 cc ∧ SwUp least fs k cc zs ∧ OwnE 45 2 znC w4.heap.size wr v zs ∧ Ext w4 wr) (fun _ _ i _ => fs.length - (intOf i).toNat)
    case atStart => exact ⟨0, 0, [], Nat.zero_le _, rfl, rfl, SwUp.start least fs, OwnE.nil _ _ _ _ _, Ext.refl _⟩
    case round =>
      obtain ⟨k, cc, zs, hk, rfl, rfl, hup, hown, hX⟩ := hrel
      obtain ⟨Az, cz, rfl⟩ := hown.slice
      have hc0 := hup.c0
      have hc1 := hup.c1
      have hlz := hup.len
      by_cases hlt : k < fs.length
      · obtain ⟨b, o, rfl, c0, c1, c2, c3⟩ := hcs.out k hlt
        obtain ⟨r1, r2, r3, r4⟩ := hrg.out _ (List.getElem_mem hlt)
        have hyes := Lib.hid (fun h1 h2 => hup.yes hlt h1 h2 (by omega))
        have hno := Lib.hid (fun h1 => hup.no hlt h1 (by omega))
        obtain ⟨f, hf⟩ : ∃ f, f = fs[k] := ⟨_, rfl⟩
        rw [← hf] at c0 c1 c2 c3 r1 r2 r3 r4 hyes hno
        replace c0 := hX.cell c0
        replace c1 := hX.cell c1
        replace c2 := hX.cell c2
        replace c3 := hX.cell c3
        replace hup := Lib.hid hup
        replace hown := Lib.hid hown
        have hXs := Lib.hid hX.size
        replace hX := Lib.hid hX
        have hki : (k : Int) < fs.length := by omega
        have hkq : (k : Int) < q.length + 1 := by have := hn.out; omega
        clear hf
        by_cases h1 : cc < f.x
        · by_cases h2 : least ≤ f.x - cc
          · have hup2 := Lib.hid (hyes.out h1 h2)
            clear hyes hno
            go_wp2_with (at_builtin; refine wpList_appE (α := Int × Int) rfl (.tmp 46) (.tmp 51) 39 rfl 45 2 w4.heap.size 16 _ znC Tryz.underlying39 info_zone rfl (by decide) (by decide) znC_len znC_one _ zs (cc, f.x) (wr.heap.size + 1) 1 rfl ((hown.out.alloc _).alloc _) rfl (Blk.cells_of (Blk.at (by simp))) (by omega) (by have := hXs.out; simp; omega) ?_; intro A6 c6 w6 ho6 hg6 _; have hx6 := Lib.hid (((hown.out.alloc (.cells (flC f).toArray 47)).alloc (.cells (znC (cc, f.x)).toArray 45)).extGrown ((hX.out.alloc _).alloc _) (Nat.le_refl _) hg6); have hb6 := ((Blk.new wr 47 (flC f).toArray).alloc (.cells (znC (cc, f.x)).toArray 45)).grown hg6 (fun e => row_ne (hown.out.alloc (.cells (flC f).toArray 47)) (Blk.new wr 47 (flC f).toArray) (by decide) e.symm); have p0 : w6.cell? ⟨wr.heap.size, 0, none⟩ = some (.int .i64 f.x) := hb6.cell 0; have p2 : w6.cell? ⟨wr.heap.size, 2, none⟩ = some (.int .i64 f.w) := hb6.cell 2; have hlt6 := hb6.lt; replace ho6 := Lib.hid ho6; replace hg6 := Lib.hid hg6; replace hb6 := Lib.hid hb6)
            go_roundw
            case rel => exact ⟨k + 1, _, zs ++ [(cc, f.x)], by omega, by go_num, rfl, hup2.out, ho6.out, hx6.out⟩
            case measure => simp [intOf]; omega
          · have hup2 := Lib.hid (hno.out (fun h => h2 h.2))
            clear hyes hno
            go_wp2
            go_roundw
            case rel => exact ⟨k + 1, _, zs, by omega, by go_num, rfl, hup2.out, hown.out.alloc _, hX.out.alloc _⟩
            case measure => simp [intOf]; omega
        · have hup2 := Lib.hid (hno.out (fun h => h1 h.1))
          clear hyes hno
          go_wp2
          go_roundw
          case rel => exact ⟨k + 1, _, zs, by omega, by go_num, rfl, hup2.out, hown.out.alloc _, hX.out.alloc _⟩
          case measure => simp [intOf]; omega
      · have hd := Lib.hid (hup.done hlt)
        have hkq : ¬ (k : Int) < q.length + 1 := by have := hn.out; omega
        replace hX := Lib.hid hX
        replace hown := Lib.hid hown
        go_wp2
        go_ret2
        rw [hst.out, ← hsz.out, hd.out]
        exact ⟨_, rfl, hown.out.rdZ, hEw.out.trans hX.out⟩

end Go.Proofs.YtphaigncbenmmaaGreatDoor
