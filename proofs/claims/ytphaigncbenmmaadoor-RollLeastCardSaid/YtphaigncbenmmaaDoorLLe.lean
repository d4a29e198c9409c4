/- RollLeast says yes of every roll and every least length. -/
import Derived.Test.YtphaigncbenmmaaDoorAwk
namespace Go.Proofs.YtphaigncbenmmaaDoor
open Go Go.RowKit

/-- what the loop of RollLeast keeps -/
structure LeUp (least : Int) (zs : List (Int × Int)) (k : Nat) (ys : List (Int × Int)) : Prop where
  eq : ys = longer least (zs.take k)
  len : ys.length ≤ k
theorem LeUp.start (least : Int) (zs : List (Int × Int)) : LeUp least zs 0 [] := ⟨rfl, by simp⟩
theorem LeUp.yes {least : Int} {zs ys : List (Int × Int)} {k : Nat} (h : LeUp least zs k ys) (hk : k < zs.length) (hl : least ≤ zs[k].2 - zs[k].1) : LeUp least zs (k + 1) (ys ++ [zs[k]]) := by
  refine ⟨?_, by rw [List.length_append]; have := h.len; simp; omega⟩
  unfold longer
  rw [take_snoc zs k hk, List.filter_append, h.eq]
  unfold longer
  congr 1
  simp [hl]
theorem LeUp.no {least : Int} {zs ys : List (Int × Int)} {k : Nat} (h : LeUp least zs k ys) (hk : k < zs.length) (hl : ¬ least ≤ zs[k].2 - zs[k].1) : LeUp least zs (k + 1) ys := by
  refine ⟨?_, by have := h.len; omega⟩
  unfold longer
  rw [take_snoc zs k hk, List.filter_append, h.eq]
  unfold longer
  simp [hl]
theorem LeUp.done {least : Int} {zs ys : List (Int × Int)} {k : Nat} (h : LeUp least zs k ys) (hk : ¬ k < zs.length) : ys = longer least zs := by
  rw [h.eq, List.take_of_length_le (by omega)]
theorem ins_len (f : Fl) : ∀ l : List Fl, (ins f l).length = l.length + 1
  | [] => rfl
  | g :: r => by
    rw [ins]; split
    · rfl
    · rw [List.length_cons, ins_len f r, List.length_cons]
theorem srt_len : ∀ l : List Fl, (srt l).length = l.length
  | [] => rfl
  | f :: r => by rw [srt, ins_len, srt_len r, List.length_cons]
theorem sweep_len : ∀ (fs : List Fl) (c : Int), (sweep c fs).length ≤ fs.length
  | [], _ => by simp [sweep]
  | f :: r, c => by
    rw [sweep, List.length_append, List.length_cons]
    have := sweep_len r (max c (f.x + f.w))
    split <;> simp <;> omega
theorem zones_len {r : Ro} (h : check r = 0) : (zones r.len r.fl).length ≤ 21 := by
  have h1 := (check_ok h).few
  have h2 := sweep_len (srt r.fl ++ [⟨r.len, 0, 0, 0⟩]) 0
  unfold zones
  rw [List.length_append, srt_len] at h2
  simp at h2
  omega
theorem zones_range {r : Ro} (h : check r = 0) : ∀ z ∈ zones r.len r.fl, (0 ≤ z.1 ∧ z.1 ≤ 1048576) ∧ (0 ≤ z.2 ∧ z.2 ≤ 1048576) := by
  intro z hz
  have hv := check_ok h
  have hl := hv.len
  have hg := zones_good (by omega) hv.fits
  have h1 := hg.lo z hz
  have h2 := hg.hi z hz
  have h3 := hg.sep.2 z hz
  omega

set_option maxRecDepth 20000 in
set_option maxHeartbeats 2000000 in
theorem c_least (r : Ro) (v : Value) (least : Int) (w : World) (ht : Tab w) (h : RdO w v r) : Calls Tryd.prog 5 #[v, .int .i64 least] w fun e w' => e = .returned (.bool true) ∧ Ext w w' := by
  obtain ⟨fv, rfl, h⟩ := h
  obtain ⟨Af, cf, rfl⟩ := h.slice
  replace h := Lib.hid h
  replace ht := Lib.hid ht
  have hcf := fun w h => c_few r (.slice Af r.fl.length cf) w h
  have hcs := fun n w h1 h2 => c_stretches r (.slice Af r.fl.length cf) n w h1 h2
  unfold roV at hcf hcs ⊢
  replace hcf := Lib.hid hcf
  replace hcs := Lib.hid hcs
  go_enter Tryd.func5, Tryd.ntmps5
  go_wp2_with fail
  refine (hcf.out _ (h.out.ext ((Ext.refl w).alloc _))).mono ?_
  rintro e w1 ⟨rfl, hx⟩
  have hb1 := (Blk.new w 36 (roC r (.slice Af r.fl.length cf)).toArray).ext hx
  have hE1 := Lib.hid (((Ext.refl w).alloc (.cells (roC r (.slice Af r.fl.length cf)).toArray 36)).trans hx)
  clear hx
  obtain ⟨q0, q1, q2, q3, q4, q5, q6⟩ := hb1.parts7
  have hlt1 := hb1.lt
  replace hb1 := Lib.hid hb1
  rcases hf : few1 r with _ | _
  · go_wp2_with fail
    refine (c_example _ (ht.out.ext hE1.out)).mono ?_
    rintro e w2 ⟨rfl, hx⟩
    replace hx := Lib.hid hx
    go_wp2
    go_ret
    exact ⟨rfl, hE1.out.trans hx.out⟩
  · have hid : r.id.length ≤ 30000 := by
      have := of_decide_eq_true (show decide (r.fl.length ≤ 30 ∧ r.id.length ≤ 100) = true from hf)
      omega
    replace hf := Lib.hid hf
    go_wp2_with fail
    refine (hcs.out 1 _ (h.out.ext hE1.out) hid).mono ?_
    intro e w2 he
    by_cases hck : check r = 0
    rotate_left
    · obtain ⟨A2, c2, rfl, _, hx⟩ := he.open_ (strP_bad 1 hck)
      clear he q0 q1 q2 q3 q4 q5 q6 hlt1
      have hE2 := Lib.hid (hE1.out.trans hx)
      have hb2 := hb1.out.ext hx
      clear hx
      obtain ⟨q0, q1, q2, q3, q4, q5, q6⟩ := hb2.parts7
      have hlt2 := hb2.lt
      replace hb2 := Lib.hid hb2
      go_wp2_with fail
      refine (hcs.out least _ (h.out.ext hE2.out) hid).mono ?_
      intro e w3 he
      obtain ⟨A3, c3, rfl, _, hx⟩ := he.open_ (strP_bad least hck)
      clear he q0 q1 q2 q3 q4 q5 q6 hlt2
      have hE3 := Lib.hid (hE2.out.trans hx)
      clear hx
      have hn0 : (check r == 0) = false := by simp; exact hck
      replace hck := Lib.hid hck
      go_wp2_with fail
      refine (c_example _ (ht.out.ext hE3.out)).mono ?_
      rintro e w4 ⟨rfl, hx⟩
      replace hx := Lib.hid hx
      go_wp2
      go_ret
      exact ⟨rfl, hE3.out.trans hx.out⟩
    · obtain ⟨A2, c2, rfl, hz2, hx⟩ := he.open_ (strP_one hck)
      clear he q0 q1 q2 q3 q4 q5 q6 hlt1
      have hE2 := Lib.hid (hE1.out.trans hx)
      have hb2 := hb1.out.ext hx
      clear hx
      obtain ⟨q0, q1, q2, q3, q4, q5, q6⟩ := hb2.parts7
      have hlt2 := hb2.lt
      replace hb2 := Lib.hid hb2
      replace hz2 := Lib.hid hz2
      go_wp2_with fail
      refine (hcs.out least _ (h.out.ext hE2.out) hid).mono ?_
      intro e w3 he
      obtain ⟨A3, c3, rfl, hz3, hx⟩ := he.open_ (strP_ok least hck)
      clear he q0 q1 q2 q3 q4 q5 q6 hlt2
      have hE3 := Lib.hid (hE2.out.trans hx)
      have hz2' := hz2.out.ext hx
      replace hz3 := Lib.hid hz3
      clear hx
      have hrg := Lib.hid (zones_range hck)
      have hz21 := zones_len hck
      replace hck := Lib.hid hck
      obtain ⟨zs, hzs⟩ : ∃ zs, zs = zones r.len r.fl := ⟨_, rfl⟩
      rw [← hzs] at hz2' hz3 hrg hz21 ⊢
      clear hzs
      obtain ⟨A2', c2', e2, hcap, hmax, hc⟩ := hz2'
      injection e2 with e3 _ e4
      subst e3 e4
      unfold maxLen at hmax
      replace hc := Lib.hid hc
      go_wp2
      go_loopw [9, 52] (fun v i wr => ∃ (k : Nat) (ys : List (Int × Int)), k ≤ zs.length ∧ i = .int .i64 (k : Nat) ∧ LeUp least zs k ys ∧ OwnE 42 2 znC w3.heap.size wr v ys ∧ Ext w3 wr) (fun _ i _ => zs.length - (intOf i).toNat)
      case atStart => exact ⟨0, [], Nat.zero_le _, rfl, LeUp.start least zs, OwnE.nil _ _ _ _ _, Ext.refl _⟩
      case round =>
        obtain ⟨k, ys, hk, rfl, hup, hown, hX⟩ := hrel
        obtain ⟨Ay, cy, rfl⟩ := hown.slice
        have hly := hup.len
        by_cases hlt : k < zs.length
        · obtain ⟨b, o, rfl, c0, c1⟩ := hc.out k hlt
          obtain ⟨⟨r1, r2⟩, r3, r4⟩ := hrg.out _ (List.getElem_mem hlt)
          have hyes := Lib.hid (fun h => hup.yes hlt h)
          have hno := Lib.hid (fun h => hup.no hlt h)
          obtain ⟨z, hz⟩ : ∃ z, z = zs[k] := ⟨_, rfl⟩
          rw [← hz] at c0 c1 r1 r2 r3 r4 hyes hno
          replace c0 := hX.cell c0
          replace c1 := hX.cell c1
          clear hz
          replace hup := Lib.hid hup
          replace hown := Lib.hid hown
          have hXs := Lib.hid hX.size
          replace hX := Lib.hid hX
          have hki : (k : Int) < zs.length := by omega
          by_cases hl : least ≤ z.2 - z.1
          · have hup2 := Lib.hid (hyes.out hl)
            go_wp2_with (at_builtin; refine wpList_appE (α := Int × Int) rfl (.tmp 63) (.tmp 65) 38 rfl 42 2 w3.heap.size 16 _ znC Tryd.underlying38 info_zone rfl (by decide) (by decide) znC_len znC_one _ ys z (wr.heap.size + 1) 1 rfl ((hown.out.alloc _).alloc _) rfl (Blk.cells_of (Blk.at (by simp))) (by omega) (by have := hXs.out; simp; omega) ?_; intro A6 c6 w6 ho6 hg6 _; have hx6 := Lib.hid (((hown.out.alloc (.cells (znC z).toArray 42)).alloc (.cells (znC z).toArray 42)).extGrown ((hX.out.alloc _).alloc _) (Nat.le_refl _) hg6); replace ho6 := Lib.hid ho6; replace hg6 := Lib.hid hg6)
            go_roundw
            case rel => exact ⟨k + 1, ys ++ [z], by omega, by go_num, hup2.out, ho6.out, hx6.out⟩
            case measure => simp [intOf]; omega
          · have hup2 := Lib.hid (hno.out hl)
            go_wp2
            go_roundw
            case rel => exact ⟨k + 1, ys, by omega, by go_num, hup2.out, hown.out.alloc _, hX.out.alloc _⟩
            case measure => simp [intOf]; omega
        · have hd := Lib.hid (hup.done hlt)
          have hki : ¬ (k : Int) < zs.length := by omega
          have hE4 := Lib.hid (hE3.out.trans hX)
          have hX4 := Lib.hid hX
          replace hown := Lib.hid hown
          clear hX
          go_wp2_with fail
          refine (c_zones _ _ (longer least zs) _ (hz3.out.ext hX4.out) (by have := hown.out.rdZ; rw [hd.out] at this; rw [hd.out]; exact this)).mono ?_
          rintro e w5 ⟨rfl, hx⟩
          have hE5 := Lib.hid (hE4.out.trans hx)
          clear hx
          go_wp2_with fail
          refine (c_example _ (ht.out.ext hE5.out)).mono ?_
          rintro e w6 ⟨rfl, hx⟩
          replace hx := Lib.hid hx
          go_wp2
          go_ret
          exact ⟨rfl, hE5.out.trans hx.out⟩

end Go.Proofs.YtphaigncbenmmaaDoor
