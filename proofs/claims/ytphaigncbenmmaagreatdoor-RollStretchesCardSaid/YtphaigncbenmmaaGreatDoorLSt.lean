/- RollStretches says yes of every roll. -/
import Derived.Test.YtphaigncbenmmaaGreatDoorAwk
import Derived.Test.YtphaigncbenmmaaGreatDoorRck
import Derived.BigQuiet
namespace Go.Proofs.YtphaigncbenmmaaGreatDoor
open Go Go.RowKit

def covB (fs : List Fl) (x : Int) : Bool := fs.any fun f => decide (f.x ≤ x ∧ x < f.x + f.w)
theorem covB_iff (fs : List Fl) (x : Int) : covB fs x = true ↔ Cov fs x := by
  unfold covB Cov
  rw [List.any_eq_true]
  constructor
  · rintro ⟨f, hf, h⟩
    have := of_decide_eq_true h
    exact ⟨f, hf, this.1, this.2⟩
  · rintro ⟨f, hf, h1, h2⟩
    exact ⟨f, hf, decide_eq_true ⟨h1, h2⟩⟩
structure CvUp (fs : List Fl) (x : Int) (k : Nat) : Prop where
  no : covB (fs.take k) x = false
theorem CvUp.next {fs : List Fl} {x : Int} {k : Nat} (h : CvUp fs x k) (hk : k < fs.length) (hf : ¬ (fs[k].x ≤ x ∧ x < fs[k].x + fs[k].w)) : CvUp fs x (k + 1) := by
  refine ⟨?_⟩
  unfold covB
  rw [take_snoc fs k hk, List.any_append]
  have := h.no
  unfold covB at this
  rw [this]
  simp only [Bool.false_or, List.any_cons, List.any_nil, Bool.or_false]
  exact decide_eq_false hf
theorem covB_hit {fs : List Fl} {x : Int} {k : Nat} (hk : k < fs.length) (hf : fs[k].x ≤ x ∧ x < fs[k].x + fs[k].w) : covB fs x = true := (covB_iff fs x).2 ⟨_, List.getElem_mem hk, hf.1, hf.2⟩
theorem CvUp.done {fs : List Fl} {x : Int} {k : Nat} (h : CvUp fs x k) (hk : ¬ k < fs.length) : covB fs x = false := by
  have := h.no
  rw [List.take_of_length_le (by omega)] at this
  exact this

set_option maxRecDepth 20000 in
set_option maxHeartbeats 2000000 in
theorem c_covered (r : Ro) (fv : Value) (x : Int) (w : World) (h : RdF w fv r.fl) (hv : Valid r) : Calls Tryz.prog 22 #[roV r fv, .int .i64 x] w fun e w' => e = .returned (.bool (covB r.fl x)) ∧ Ext w w' := by
  obtain ⟨A, c, rfl, hcap, hmax, _, hc⟩ := h
  unfold maxLen at hmax
  replace hc := Lib.hid hc
  have hle := hv.len
  have hfit := Lib.hid hv.fits
  replace hv := Lib.hid hv
  unfold roV
  go_enter Tryz.func22, Tryz.ntmps22
  go_wp2
  obtain ⟨wB, hwB⟩ : ∃ wB, wB = w.alloc (.cells (roC r (.slice A r.fl.length c)).toArray 26) := ⟨_, rfl⟩
  have hEB := Lib.hid (show Ext w wB from hwB ▸ (Ext.refl w).alloc _)
  unfold roC at hwB
  rw [← hwB]
  clear hwB
  go_loopw [10] (fun i wr => ∃ k : Nat, k ≤ r.fl.length ∧ i = .int .i64 (k : Nat) ∧ CvUp r.fl x k ∧ Ext wB wr) (fun i _ => r.fl.length - (intOf i).toNat)
  case atStart => exact ⟨0, Nat.zero_le _, rfl, ⟨rfl⟩, Ext.refl _⟩
  case round =>
    obtain ⟨k, hk, rfl, hup, hX⟩ := hrel
    by_cases hlt : k < r.fl.length
    · obtain ⟨b, o, rfl, c0, c1, c2, c3⟩ := hc.out k hlt
      have hw := hEB.out.trans hX
      obtain ⟨g1, g2, g3⟩ := hfit.out _ (List.getElem_mem hlt)
      have hnx := Lib.hid (fun h => hup.next hlt h)
      have hit := Lib.hid (fun h => covB_hit (x := x) hlt h)
      obtain ⟨f, hf⟩ : ∃ f, f = r.fl[k] := ⟨_, rfl⟩
      rw [← hf] at c0 c1 c2 c3 g1 g2 g3 hnx hit
      clear hf
      replace c0 := hw.cell c0
      replace c1 := hw.cell c1
      replace c2 := hw.cell c2
      replace c3 := hw.cell c3
      replace hw := Lib.hid hw
      replace hX := Lib.hid hX
      replace hup := Lib.hid hup
      have hki : (k : Int) < r.fl.length := by omega
      by_cases h1 : f.x ≤ x
      · by_cases h2 : x < f.x + f.w
        · have hh := Lib.hid (hit.out ⟨h1, h2⟩)
          go_wp2
          go_ret
          exact ⟨ret_bool hh.out.symm, hw.out.alloc _⟩
        · have hup2 := Lib.hid (hnx.out (fun h => h2 h.2))
          go_wp2
          go_roundw
          case rel => exact ⟨k + 1, by omega, by go_num, hup2.out, hX.out.alloc _⟩
          case measure => simp [intOf]; omega
      · have hup2 := Lib.hid (hnx.out (fun h => h1 h.1))
        go_wp2
        go_roundw
        case rel => exact ⟨k + 1, by omega, by go_num, hup2.out, hX.out.alloc _⟩
        case measure => simp [intOf]; omega
    · have hd := Lib.hid (hup.done hlt)
      have hki : ¬ (k : Int) < r.fl.length := by omega
      replace hX := Lib.hid hX
      go_wp2
      go_ret
      exact ⟨ret_bool hd.out.symm, hEB.out.trans hX.out⟩

/-! ### The law's second loop in plain words -/
/-- the first zone that ends behind x is number k -/
structure AtUp (zs : List (Int × Int)) (x : Int) (k : Nat) : Prop where
  le : k ≤ zs.length
  past : ∀ j (h : j < zs.length), j < k → zs[j].2 ≤ x
theorem AtUp.mono {zs : List (Int × Int)} {x y : Int} {k : Nat} (h : AtUp zs x k) (hxy : x ≤ y) : AtUp zs y k := ⟨h.le, fun j hj hjk => by have := h.past j hj hjk; omega⟩
theorem AtUp.next {zs : List (Int × Int)} {x : Int} {k : Nat} (h : AtUp zs x k) (hk : k < zs.length) (hz : zs[k].2 ≤ x) : AtUp zs x (k + 1) := ⟨hk, fun j hj hjk => by
  rcases Nat.lt_or_ge j k with h1 | h1
  · exact h.past j hj h1
  · obtain rfl : j = k := by omega
    exact hz⟩
theorem sep_lt {zs : List (Int × Int)} (h : Sep zs) {i j : Nat} (hi : i < zs.length) (hj : j < zs.length) (hij : i < j) : zs[i].2 < zs[j].1 := List.pairwise_iff_getElem.1 h.1 i j hi hj hij
theorem AtUp.inZ {zs : List (Int × Int)} {x : Int} {k : Nat} (h : AtUp zs x k) (hs : Sep zs) (hz : ∀ hk : k < zs.length, ¬ zs[k].2 ≤ x) : (∃ hk : k < zs.length, zs[k].1 ≤ x) ↔ InZ zs x := by
  constructor
  · rintro ⟨hk, h1⟩
    have := hz hk
    exact ⟨zs[k], List.getElem_mem hk, h1, by omega⟩
  · rintro ⟨z, hz1, h1, h2⟩
    obtain ⟨j, hj, rfl⟩ := List.getElem_of_mem hz1
    rcases Nat.lt_trichotomy j k with h3 | h3 | h3
    · have := h.past j hj h3
      omega
    · subst h3
      exact ⟨hj, h1⟩
    · have hk : k < zs.length := by omega
      have := sep_lt hs hk hj h3
      have := hz hk
      omega

end Go.Proofs.YtphaigncbenmmaaGreatDoor
