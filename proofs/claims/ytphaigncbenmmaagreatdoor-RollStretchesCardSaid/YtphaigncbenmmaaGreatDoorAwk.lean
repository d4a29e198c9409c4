/- The chapter's examples. -/
import Derived.Test.YtphaigncbenmmaaGreatDoorPar
import Derived.Test.YtphaigncbenmmaaGreatDoorPri
import Derived.Test.YtphaigncbenmmaaGreatDoorStr
import Derived.Test.YtphaigncbenmmaaGreatDoorSam
import Derived.Test.YtphaigncbenmmaaGreatDoorFew
namespace Go.Proofs.YtphaigncbenmmaaGreatDoor
open Go Go.RowKit

def f0 : Fl := ⟨10, 0, 5, 20⟩
def r0 : Ro := ⟨[82, 49], 150, 1000, 50, -2, 7, [f0]⟩
def rz : Ro := ⟨[114], 0, 0, 0, 0, 0, []⟩
def t0 : B := [114, 111, 108, 108, 32, 82, 49, 32, 49, 48, 48, 48, 32, 49, 53, 48, 32, 53, 48, 32, 45, 50, 32, 55, 32, 102, 108, 97, 119, 32, 49, 48, 32, 48, 32, 53, 32, 50, 48, 10]
def t1 : B := [10, 114, 111, 108, 108, 32, 82, 49, 32, 49, 48, 32, 49, 48, 32, 48, 32, 48, 10]
def z0 : List (Int × Int) := [(0, 10), (15, 1000)]
def y0 : List (Int × Int) := [(15, 1000)]

set_option maxRecDepth 20000 in
theorem parse_t0 : parse (10 :: t0) = ([r0], 0, 0) := by decide
set_option maxRecDepth 20000 in
theorem parse_t1 : parse t1 = ([], 2, 2) := by decide
set_option maxRecDepth 20000 in
theorem print_r0 : print [r0] = (t0, 0) := by
  rw [texts parse_t0]
  have : dense (10 :: t0) = t0 := by decide
  rw [this]
theorem strP_1 : strP r0 1 = (z0, 0) := by decide
theorem strP_11 : strP r0 11 = (y0, 0) := by decide
theorem check_r0 : check r0 = 0 := by decide
theorem check_rz : check rz = 1 := by decide

theorem rdF_one {w : World} {g : Nat} {f : Fl} (h : Blk w g 47 (flC f).toArray) (hi : FlI f) : RdF w (.slice (some ⟨g, 0, none⟩) 1 1) [f] := by
  refine ⟨_, 1, rfl, by simp, by simp [maxLen], fun k hk => ?_, fun j hj => ?_⟩
  · rw [List.mem_singleton] at hk; subst hk; exact hi
  · have hj : j < 1 := hj
    obtain rfl : j = 0 := by omega
    exact ⟨g, 0, rfl, h.cell 0, h.cell 1, h.cell 2, h.cell 3⟩
theorem rdZ_two {w : World} {g : Nat} {y z : Int × Int} (h : Blk w g 45 #[.int .i64 y.1, .int .i64 y.2, .int .i64 z.1, .int .i64 z.2]) : RdZ w (.slice (some ⟨g, 0, none⟩) 2 2) [y, z] := by
  refine ⟨_, 2, rfl, by simp, by simp [maxLen], fun j hj => ⟨g, 0, rfl, ?_⟩⟩
  have hj : j < 2 := hj
  match j, hj with
  | 0, _ => exact ⟨h.cell 0, h.cell 1⟩
  | 1, _ => exact ⟨h.cell 2, h.cell 3⟩
theorem RdZ.base {w : World} {A : Option Addr} {n c : Nat} {zs : List (Int × Int)} (h : RdZ w (.slice A n c) zs) (h0 : 0 < zs.length) : ∃ b o, A = some ⟨b, o, none⟩ := by
  obtain ⟨A', c', e, _, _, h3⟩ := h
  injection e with e1 _ _
  obtain ⟨b, o, e2, _⟩ := h3 0 h0
  exact ⟨b, o, e1.trans e2⟩
theorem RdZ.cap {w : World} {A : Option Addr} {n c : Nat} {zs : List (Int × Int)} (h : RdZ w (.slice A n c) zs) : zs.length ≤ c ∧ c ≤ 9223372036854775807 := by
  obtain ⟨A', cap, e, h1, h2, h3⟩ := h
  injection e with e1 e2 e3
  unfold maxLen at h2
  omega
theorem RdZ.tail {w : World} {b o n c : Nat} {z : Int × Int} {zs : List (Int × Int)} (h : RdZ w (.slice (some ⟨b, o, none⟩) n c) (z :: zs)) : RdZ w (.slice (some ⟨b, o + 2, none⟩) zs.length (c - 1)) zs := by
  obtain ⟨A', cap, e, h1, h2, h3⟩ := h
  injection e with e1 e2 e3
  subst e3
  simp only [List.length_cons] at h1
  refine ⟨_, c - 1, rfl, by omega, by omega, fun j hj => ?_⟩
  obtain ⟨b', o', e4, c0, c1⟩ := h3 (j + 1) (by simp; omega)
  rw [← e1] at e4
  injection e4 with e4
  injection e4 with e5 e6 _
  subst e5 e6
  refine ⟨b, o + 2, rfl, ?_, ?_⟩
  · rw [show o + 2 + j * 2 = o + (j + 1) * 2 by omega]; simpa using c0
  · rw [show o + 2 + j * 2 + 1 = o + (j + 1) * 2 + 1 by omega]; simpa using c1

set_option maxRecDepth 20000 in
set_option maxHeartbeats 4000000 in
theorem c_example (w : World) (ht : Tab w) : Calls Tryz.prog 12 #[] w fun e w' => e = .returned (.bool true) ∧ Ext w w' := by
  replace ht := Lib.hid ht
  go_enter Tryz.func12, Tryz.ntmps12
  go_wp2_with fail
  obtain ⟨wA, hwA⟩ : ∃ wA, wA = (w.alloc (.cells (flC f0).toArray 47)).alloc (.cells (roC r0 (.slice (some ⟨w.heap.size, 0, none⟩) 1 1)).toArray 26) := ⟨_, rfl⟩
  have hfA := Lib.hid (show RdF wA (.slice (some ⟨w.heap.size, 0, none⟩) 1 1) r0.fl from hwA ▸ rdF_one ((Blk.new w 47 _).alloc _) ⟨⟨by decide, by decide⟩, ⟨by decide, by decide⟩, ⟨by decide, by decide⟩, by decide, by decide⟩)
  have hbA := Lib.hid (show Blk wA (w.heap.size + 1) 26 (roC r0 (.slice (some ⟨w.heap.size, 0, none⟩) 1 1)).toArray from hwA ▸ Blk.at (by simp))
  have hEA := Lib.hid (show Ext w wA from hwA ▸ ((Ext.refl w).alloc _).alloc _)
  have hsA := Lib.hid (show wA.heap.size = w.heap.size + 1 + 1 by rw [hwA]; simp)
  rw [show (w.alloc (.cells #[.int .i64 10, .int .i64 0, .int .i64 5, .int .i64 20] 47)).alloc (.cells #[.string ⟨#[82, 49]⟩, .int .i64 150, .int .i64 1000, .int .i64 50, .int .i64 (-2), .int .i64 7, .slice (some ⟨w.heap.size, 0, none⟩) 1 1] 26) = wA from hwA.symm]
  clear hwA
  refine (c_print [r0] _ _ (rdR_one (r := r0) (fv := .slice (some ⟨w.heap.size, 0, none⟩) 1 1) (Blk.at hsA.out.symm) (hfA.out.ext ((Ext.refl wA).alloc _))) (ht.out.ext (hEA.out.alloc _)) (fun r hr => by rw [List.mem_singleton] at hr; subst hr; decide)).mono ?_
  intro e w1 he
  obtain ⟨rfl, hx⟩ := he.open_ print_r0
  have hA1 := Lib.hid (((Ext.refl wA).alloc _).trans hx)
  clear he hx
  go_wp2_with fail
  refine (c_parse _ _ (ht.out.ext (hEA.out.trans hA1.out)) (by decide)).mono ?_
  intro e w2 he
  obtain ⟨Al, cl, rfl, hl2, hx⟩ := he.open_ (show _ = _ from parse_t0)
  have hA2 := Lib.hid (hA1.out.trans hx)
  replace hl2 := Lib.hid hl2
  clear he hx
  go_wp2_with fail
  refine (c_parse _ _ (ht.out.ext (hEA.out.trans hA2.out)) (by decide)).mono ?_
  intro e w3 he
  obtain ⟨Am, cm, rfl, hl3, hx⟩ := he.open_ (show _ = _ from parse_t1)
  have h23 := Lib.hid hx
  have hA3 := Lib.hid (hA2.out.trans hx)
  clear he hx hl3
  have hb3 := hbA.out.ext hA3.out
  obtain ⟨q0, q1, q2, q3, q4, q5, q6⟩ := hb3.parts7
  have hlt3 := hb3.lt
  replace hb3 := Lib.hid hb3
  go_wp2_with fail
  refine (c_stretches r0 (.slice (some ⟨w.heap.size, 0, none⟩) 1 1) 1 _ (hfA.out.ext hA3.out) (by decide)).mono ?_
  intro e w4 he
  obtain ⟨Az, cz, rfl, hz4, hx⟩ := he.open_ strP_1
  have h34 := Lib.hid hx
  have hA4 := Lib.hid (hA3.out.trans hx)
  replace hz4 := Lib.hid hz4
  clear he hx q0 q1 q2 q3 q4 q5 q6 hlt3
  have hb4 := hbA.out.ext hA4.out
  obtain ⟨q0, q1, q2, q3, q4, q5, q6⟩ := hb4.parts7
  have hlt4 := hb4.lt
  replace hb4 := Lib.hid hb4
  go_wp2_with fail
  refine (c_stretches r0 (.slice (some ⟨w.heap.size, 0, none⟩) 1 1) 11 _ (hfA.out.ext hA4.out) (by decide)).mono ?_
  intro e w5 he
  obtain ⟨Ay, cy, rfl, hy5, hx⟩ := he.open_ strP_11
  have h45 := Lib.hid hx
  have hA5 := Lib.hid (hA4.out.trans hx)
  replace hy5 := Lib.hid hy5
  clear he hx q0 q1 q2 q3 q4 q5 q6 hlt4
  have hb5 := hbA.out.ext hA5.out
  obtain ⟨q0, q1, q2, q3, q4, q5, q6⟩ := hb5.parts7
  have hlt5 := hb5.lt
  replace hb5 := Lib.hid hb5
  have htx : ((ofB t0).toList == t0) = true := by rw [ByteArray.toList_eq]; decide
  unfold t0 at htx ⊢
  go_wp2_with fail
  refine (c_same _ _ [r0] _ (hl2.out.ext ((h23.out.trans (h34.out.trans h45.out)).alloc _)) (rdR_one (r := r0) (fv := .slice (some ⟨w.heap.size, 0, none⟩) 1 1) (Blk.at rfl) (hfA.out.ext (hA5.out.alloc _)))).mono ?_
  rintro e w6 ⟨rfl, hx⟩
  have h56 := Lib.hid (((Ext.refl w5).alloc _).trans hx)
  clear hx q0 q1 q2 q3 q4 q5 q6 hlt5
  go_wp2_with fail
  refine (c_zones _ _ z0 _ (hz4.out.ext ((h45.out.trans h56.out).alloc _)) (rdZ_two (y := (0, 10)) (z := (15, 1000)) (Blk.at rfl))).mono ?_
  rintro e w7 ⟨rfl, hx⟩
  have h67 := Lib.hid (((Ext.refl w6).alloc _).trans hx)
  clear hx
  obtain ⟨bz, oz, rfl⟩ := hz4.out.base (by decide)
  obtain ⟨hcz1, hcz2⟩ := hz4.out.cap
  have hcz1 : 2 ≤ cz := hcz1
  have hz1 : (1 : Int) ≤ cz := by omega
  have hz2 : ¬ cz = 1 := by omega
  have hl2z : z0.length = 2 := rfl
  have hl1y : y0.length = 1 := rfl
  go_wp2_with fail
  refine (c_zones _ _ y0 _ (hy5.out.ext (h56.out.trans h67.out)) ((hz4.out.ext (h45.out.trans (h56.out.trans h67.out))).tail (z := (0, 10)) (zs := y0))).mono ?_
  rintro e w8 ⟨rfl, hx⟩
  have hA8 := Lib.hid (hA5.out.trans (h56.out.trans (h67.out.trans hx)))
  clear hx
  have hb8 := hbA.out.ext hA8.out
  obtain ⟨q0, q1, q2, q3, q4, q5, q6⟩ := hb8.parts7
  have hlt8 := hb8.lt
  replace hb8 := Lib.hid hb8
  go_wp2_with fail
  refine (c_check r0 (.slice (some ⟨w.heap.size, 0, none⟩) 1 1) _ (hfA.out.ext hA8.out) (by decide)).mono ?_
  rintro e w9 ⟨rfl, hx⟩
  rw [check_r0]
  have hA9 := Lib.hid (hA8.out.trans hx)
  clear hx q0 q1 q2 q3 q4 q5 q6 hlt8
  go_wp2_with fail
  refine (c_check rz (.slice none 0 0) _ (RdF.nil _) (by decide)).mono ?_
  rintro e w10 ⟨rfl, hx⟩
  rw [check_rz]
  have hE10 := Lib.hid (hEA.out.trans (hA9.out.trans hx))
  clear hx
  go_wp2
  go_ret
  exact ⟨rfl, hE10.out⟩

end Go.Proofs.YtphaigncbenmmaaGreatDoor
