/- The last plain facts of TopSpec: what is measured lies within; a seam that fits has equal targets. -/
import Derived.Test.YtiahfiopigjolaaGreatMea
import Derived.Test.YtiahfiopigjolaaGreatUnf
import Derived.Test.YtiahfiopigjolaaGreatSml
namespace Go.Proofs.YtiahfiopigjolaaGreat
open Go Go.RowKit

def bA : ByteArray := ⟨#[97]⟩
def bB : ByteArray := ⟨#[98]⟩
theorem bA_name : nmB bA = true := by decide +kernel
theorem bB_name : nmB bB = true := by decide +kernel

theorem ta_at {s : St} {p : Pm} {z : Nat} (hs : specE s [p] = 0) (h1 : z < s.sizes.length) (h2 : z < s.mults.length) : taE s p z = targetE s p s.mults[z] ∧ taN s p z = tgN s p s.mults[z] := by
  have h := ta_run (z := (z : Int)) hs ⟨by omega, by omega⟩
  rwa [Int.toNat_natCast, nth_eq s.mults h2] at h

/-- a seam without ease that fits has two targets of one length -/
theorem seam_fit {s : St} {z k : Nat} {bad : List Int} (hs : styleE s = 0) (h1 : z < s.sizes.length) (h2 : z < s.mults.length) (hk : k < s.seams.length) (hu : UfAt s s.mults[z] bad s.seams.length) (he : s.seams[k].ease = 0) (hn : ¬ (k : Int) ∈ bad) :
    taE s (onePm bA s.seams[k].pa s.seams[k].ea) z = 0 ∧ taE s (onePm bB s.seams[k].pb s.seams[k].eb) z = 0 ∧ taN s (onePm bA s.seams[k].pa s.seams[k].ea) z = taN s (onePm bB s.seams[k].pb s.seams[k].eb) z := by
  obtain ⟨ha, hb⟩ := (stOk_of hs).seam k hk
  obtain ⟨hl, hd⟩ := hu k hk
  rw [nth_eq s.seams hk] at hl hd
  rcases hd with hd | ⟨hd1, hd2⟩
  · exact absurd hd hn
  rw [he] at hd1 hd2
  have hga : gradeE (nth s.pieces s.seams[k].pa.toNat) s.mults[z] = 0 := by
    unfold lsE at hl
    split at hl
    · assumption
    · rename_i h; exact absurd hl h
  have hgb : gradeE (nth s.pieces s.seams[k].pb.toNat) s.mults[z] = 0 := by
    unfold lsE at hl
    rwa [if_pos hga] at hl
  have hA := ta_at (specE_one hs (onePm_ok bA_name ha)) h1 h2
  have hB := ta_at (specE_one hs (onePm_ok bB_name hb)) h1 h2
  have eA : targetE s (onePm bA s.seams[k].pa s.seams[k].ea) s.mults[z] = 0 := (targetE_one _ _ _ _ _).trans hga
  have eB : targetE s (onePm bB s.seams[k].pb s.seams[k].eb) s.mults[z] = 0 := (targetE_one _ _ _ _ _).trans hgb
  refine ⟨hA.1.trans eA, hB.1.trans eB, ?_⟩
  rw [hA.2, hB.2, tgN_ok eA, tgN_ok eB, targetN_one, targetN_one]
  have e1 : lsA s s.mults[z] s.seams[k] = plLen (lineAt (gradedL (nth s.pieces s.seams[k].pa.toNat) s.mults[z]) s.seams[k].ea) := lenN_ok hga
  have e2 : lsB s s.mults[z] s.seams[k] = plLen (lineAt (gradedL (nth s.pieces s.seams[k].pb.toNat) s.mults[z]) s.seams[k].eb) := lenN_ok hgb
  rw [e1, e2] at hd1 hd2
  omega

/-- what is measured of the points in front of k -/
def msL (s : St) (l : List Pm) (m : Int) (k : Nat) : List Int := (List.range k).map fun j => targetN s (nth l j) m
theorem msL_len (s : St) (l : List Pm) (m : Int) (k : Nat) : (msL s l m k).length = k := by unfold msL; simp
theorem msL_snoc (s : St) (l : List Pm) (m : Int) (k : Nat) : msL s l m (k + 1) = msL s l m k ++ [targetN s (nth l k) m] := by unfold msL; rw [List.range_succ, List.map_append]; rfl
theorem msL_get {s : St} {l : List Pm} {m : Int} {n k : Nat} (h : k < n) : nth (msL s l m n) k = targetN s (nth l k) m := by
  rw [nth_eq _ (by rw [msL_len]; exact h)]
  unfold msL
  simp
theorem ms_ok {s : St} {l : List Pm} {z : Nat} (hs : specE s l = 0) (h1 : z < s.sizes.length) (h2 : z < s.mults.length) (ht : ∀ k, k < l.length → targetE s (nth l k) s.mults[z] = 0) : JdOk s l z s.mults[z] (msL s l s.mults[z] l.length) where
  spec := hs
  len := msL_len _ _ _ _
  z1 := h1
  z2 := h2
  m_ := fun _ => rfl
  in_ := fun k hk => by
    rw [msL_len] at hk
    rw [msL_get hk, nth_eq l hk]
    have hp := specE_at hs hk
    have := ht k hk
    rw [nth_eq l hk] at this
    have hb := targetN_in hp (Nat.le_refl _) this
    have hf := hp.few
    unfold targetN
    omega
  tg := ht
theorem ms_in {s : St} {l : List Pm} {m : Int} (hs : specE s l = 0) : inB s l m (msL s l m l.length) = true := by
  refine decide_eq_true fun k hk => ?_
  rw [msL_get hk, nth_eq l hk]
  have hp := specE_at hs hk
  have h1 := hp.p0
  have h2 := hp.m0
  exact outN_in (by omega) (by omega)

theorem RdI.rdL {w : World} {v : Value} {xs : List Int} (h : RdI w v xs) : RdL 1 inP w v xs := by
  obtain ⟨A, cap, rfl, h1, h2, h3⟩ := h
  refine ⟨A, cap, rfl, h1, h2, fun j hj => ?_⟩
  obtain ⟨b, o, rfl, hc⟩ := h3 j hj
  refine ⟨b, o, [.int .i64 xs[j]], rfl, rfl, rfl, fun i hi => ?_⟩
  obtain rfl : i = 0 := by omega
  rw [Nat.mul_one, Nat.add_zero]
  exact hc
theorem RdI.at {w : World} {A : Option Addr} {n c : Nat} {xs : List Int} (h : RdI w (.slice A n c) xs) (j : Nat) (hj : j < xs.length) : ∃ b o, A = some ⟨b, o, none⟩ ∧ w.cell? ⟨b, o + j, none⟩ = some (.int .i64 xs[j]) := by
  obtain ⟨A', cap, e, _, _, h3⟩ := h
  injection e with e1 _ _
  obtain ⟨b, o, e2, hc⟩ := h3 j hj
  exact ⟨b, o, e1.trans e2, hc⟩
/-- what the inner loop over the seams that do not fit has found -/
structure FitAt (t : Bool) (ease : Int) (bad : List Int) (k q : Nat) : Prop where
  fit : t = true → ease = 0 ∧ ∀ i (h : i < bad.length), i < q → ¬ bad[i] = (k : Int)
theorem FitAt.zero (ease : Int) (bad : List Int) (k : Nat) : FitAt (ease == 0) ease bad k 0 := ⟨fun h => ⟨eq_of_beq h, fun i _ h => absurd h (by omega)⟩⟩
theorem FitAt.off (ease : Int) (bad : List Int) (k q : Nat) : FitAt false ease bad k q := ⟨fun h => by cases h⟩
theorem FitAt.next {ease : Int} {bad : List Int} {k q : Nat} (h : FitAt true ease bad k q) (hq : q < bad.length) (hn : ¬ bad[q] = (k : Int)) : FitAt true ease bad k (q + 1) :=
  ⟨fun _ => ⟨(h.fit rfl).1, fun i hi h2 => by
    rcases Nat.lt_or_ge i q with h3 | h3
    · exact (h.fit rfl).2 i hi h3
    · obtain rfl : i = q := by omega
      exact hn⟩⟩
theorem FitAt.done {ease : Int} {bad : List Int} {k q : Nat} (h : FitAt true ease bad k q) (hq : ¬ q < bad.length) : ease = 0 ∧ ¬ (k : Int) ∈ bad :=
  ⟨(h.fit rfl).1, fun hm => by
    obtain ⟨i, hi, e⟩ := List.getElem_of_mem hm
    exact (h.fit rfl).2 i hi (by omega) e⟩

end Go.Proofs.YtiahfiopigjolaaGreat
