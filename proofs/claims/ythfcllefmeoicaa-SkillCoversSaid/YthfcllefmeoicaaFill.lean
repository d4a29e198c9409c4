/- Contract of fill. -/
import Derived.Test.YthfcllefmeoicaaAbleW
namespace Go.Proofs.Ythfcllefmeoicaa
open Go.RowKit

/-- the needs of the workers, as the array 'work' -/
def workA (f : Nat → Int) : Array Value := ((List.range 12).map fun i => Value.int .i64 (f i)).toArray
theorem workA_size (f : Nat → Int) : (workA f).size = 12 := by simp [workA]
theorem workA_get (f : Nat → Int) (k : Nat) (h : k < 12) : (workA f)[k]? = some (.int .i64 (f k)) := by simp [workA, h]
theorem workA_set (f : Nat → Int) (k : Nat) (b : Int) : (workA f).setIfInBounds k (.int .i64 b) = workA (upd f k b) := by
  apply Array.ext
  · simp [workA_size]
  · intro i h1 h2
    by_cases hk : k = i
    · subst hk; simp [workA, upd]
    · simp [workA, upd, hk, Ne.symm hk]

/-- Only the blocks g1 and g2 may have turned, and no block is new. -/
structure Two (g1 g2 : Nat) (w w' : World) : Prop where
  os : w'.os = w.os
  tape : w'.tape = w.tape
  output : w'.output = w.output
  size : w'.heap.size = w.heap.size
  block : ∀ b, b ≠ g1 → b ≠ g2 → w'.heap[b]? = w.heap[b]?
theorem Two.refl (g1 g2 : Nat) (w : World) : Two g1 g2 w w := ⟨rfl, rfl, rfl, rfl, fun _ _ _ => rfl⟩
theorem Two.trans {g1 g2 : Nat} {a b c : World} (h : Two g1 g2 a b) (k : Two g1 g2 b c) : Two g1 g2 a c :=
  ⟨k.os.trans h.os, k.tape.trans h.tape, k.output.trans h.output, k.size.trans h.size, fun i h1 h2 => (k.block i h1 h2).trans (h.block i h1 h2)⟩
theorem Two.set {g1 g2 : Nat} {a w : World} (h : Two g1 g2 a w) {p : Addr} (hp : p.block = g1 ∨ p.block = g2) (u : Value) : Two g1 g2 a (w.setCell p u) :=
  h.trans ⟨rfl, rfl, rfl, by simp [World.setCell], fun i h1 h2 => Below.heap_setCell w p u i (by rcases hp with e | e <;> rw [e] <;> assumption)⟩
theorem Two.blk {g1 g2 : Nat} {w w' : World} (h : Two g1 g2 w w') {g : Nat} {t : TypeId} {cs : Array Value} (hb : Blk w g t cs) (h1 : g ≠ g1) (h2 : g ≠ g2) : Blk w' g t cs := (h.block g h1 h2).trans hb
theorem Two.below {g1 g2 B : Nat} {w w' : World} (h : Two g1 g2 w w') (h1 : B ≤ g1) (h2 : B ≤ g2) : Below B w w' :=
  ⟨h.os, h.tape, h.output, by rw [h.size]; exact Nat.le_refl _, fun k hk => h.block k (by omega) (by omega)⟩

/-- The slice's row lies in a block below B (or there is none). -/
def Und (B : Nat) (v : Value) : Prop := ∀ a n c, v = .slice (some a) n c → a.block < B
theorem RdC.below {w w' : World} {v : Value} {cs : List (Nat → Bool)} {B : Nat} (h : RdC w v cs) (hu : Und B v) (hb : Below B w w') : RdC w' v cs := by
  obtain ⟨A, cap, rfl, h1, h2, h3⟩ := h
  refine ⟨A, cap, rfl, h1, h2, fun j hj => ?_⟩
  obtain ⟨b, o, rfl, hc⟩ := h3 j hj
  exact ⟨b, o, rfl, fun i v hv => (hb.cell (p := ⟨b, o + j * 12 + i, none⟩) (hu ⟨b, o, none⟩ _ _ rfl)).trans (hc i v hv)⟩

theorem range_drop (j : Nat) (h : j < 12) : (List.range 12).drop j = j :: (List.range 12).drop (j + 1) := by
  rw [List.drop_eq_getElem_cons (by simpa using h)]; simp

theorem csAt_eq (cs : List (Nat → Bool)) (k i : Nat) (h : k < cs.length) : csAt cs k i = cs[k] i := by simp [csAt, h]

/-- what fill leaves -/
def FillOk (_cs : List (Nat → Bool)) (gw gs : Nat) (w : World) (r : St) (e : Ending) (w' : World) : Prop :=
  e = .returned (.bool r.1) ∧ Blk w' gw 73 (workA r.2.1) ∧ Blk w' gs 58 (crewA r.2.2) ∧ Two gw gs w w'

set_option maxHeartbeats 2000000 in
theorem c_fill (v : Value) (cs : List (Nat → Bool)) (gw gs B : Nat) (hu : Und B v) (hw : B ≤ gw) (hs : B ≤ gs) (hne : gw ≠ gs) (_hcs : cs.length ≤ 1000000) (n : Nat) :
    ∀ (k : Nat) (f : Nat → Int) (s : Nat → Bool) (w : World), unseen s < n → k < cs.length → Rng cs.length f → RdC w v cs → Blk w gw 73 (workA f) → Blk w gs 58 (crewA s) →
    Calls Try.prog 47 #[v, .int .i64 k, .pointer (some ⟨gw, 0, none⟩), .pointer (some ⟨gs, 0, none⟩)] w (FillOk cs gw gs w (fillM cs n k f s)) := by
  induction n with
  | zero => intro k f s w h; omega
  | succ n ih =>
    intro k f s w hun hk hf hR hBw hBs
    have IH := Lib.hid ih
    clear ih
    have HU := Lib.hid hu
    have HR := Lib.hid hR
    obtain ⟨A, cap, rfl, hcap, hmax, hc⟩ := hR
    unfold maxLen at hmax
    obtain ⟨b, o, rfl, hrow⟩ := hc k hk
    have hrow := Lib.hid hrow
    have HF := Lib.hid hf
    have HBw := Lib.hid hBw
    have HBs := Lib.hid hBs
    have HUN := Lib.hid hun
    have Hne := Lib.hid hne
    clear hc hf hBw hBs hun hu hne
    go_enter Try.func47, Try.ntmps47
    go_wp2_with (refine wpList_load_mid rfl 58 (.tmp 13) rfl b (o + k * 12) rfl (crewL cs[k]) _ hrow.out Try.underlying58 rfl (by rw [crewL_length]; exact info58) ?_)
    go_loopw [15] (fun i wr => ∃ (j : Nat) (f' : Nat → Int) (s' : Nat → Bool), j ≤ 12 ∧ i = .int .i64 j ∧ Hid (fillM cs (n + 1) k f s = loopM (fillM cs n) (csAt cs k) k ((List.range 12).drop j) f' s') ∧ Hid (Rng cs.length f') ∧ Hid (SubS s s') ∧ Hid (Blk wr gw 73 (workA f')) ∧ Hid (Blk wr gs 58 (crewA s')) ∧ Hid (Two gw gs w wr)) (fun i _ => 12 - (intOf i).toNat)
    case atStart => exact ⟨0, f, s, by omega, rfl, Lib.hid rfl, HF, Lib.hid (SubS.refl s), HBw, HBs, Lib.hid (Two.refl _ _ _)⟩
    case round =>
      obtain ⟨j, f', s', hj, rfl, HE, HF', HS, HW, HC, HT⟩ := hrel
      by_cases hlt : j < 12
      · have hix := run_index_crew cs[k] j hlt
        unfold crewA at hix
        have hdrop := Lib.hid (range_drop j hlt)
        have hcC := HC.out.cell j
        rw [crewA_get _ _ hlt] at hcC
        have hcF := HC.out.frozen j
        have hcW := HW.out.cell j
        rw [workA_get _ _ hlt] at hcW
        have hcG := HW.out.frozen j
        have i0 : (0 : Int) ≤ (j : Int) := by omega
        have i1 : (j : Int) < 12 := by omega
        have hne1 := Hne.out
        have hne2 := Ne.symm Hne.out
        cases hcan : cs[k] j with
        | false =>
          rw [hcan] at hix
          have hstep := Lib.hid ((congrArg (fun l => loopM (fillM cs n) (csAt cs k) k l f' s') hdrop.out).trans (loopM_skip (by rw [csAt_eq cs k j hk, hcan]; rfl)))
          go_wp2
          go_roundw
          case rel => exact ⟨j + 1, f', s', by omega, by go_num, Lib.hid (HE.out.trans hstep.out), HF', HS, HW, HC, HT⟩
          case measure => simp [intOf]; omega
        | true =>
          rw [hcan] at hix
          cases hsj : s' j with
          | true =>
            rw [hsj] at hcC
            have hstep := Lib.hid ((congrArg (fun l => loopM (fillM cs n) (csAt cs k) k l f' s') hdrop.out).trans (loopM_skip (by rw [csAt_eq cs k j hk, hcan, hsj]; rfl)))
            go_wp2
            go_roundw
            case rel => exact ⟨j + 1, f', s', by omega, by go_num, Lib.hid (HE.out.trans hstep.out), HF', HS, HW, HC, HT⟩
            case measure => simp [intOf]; omega
          | false =>
            rw [hsj] at hcC
            have HC1 := Lib.hid (HC.out.set_ j (.bool true))
            have hgo : (csAt cs k j && !s' j) = true := by rw [csAt_eq cs k j hk, hcan, hsj]; rfl
            have hgo := Lib.hid hgo
            by_cases hfj : f' j = -1
            · have hstep := Lib.hid ((congrArg (fun l => loopM (fillM cs n) (csAt cs k) k l f' s') hdrop.out).trans (loopM_free hgo.out hfj))
              rw [hfj] at hcW
              clear hfj
              go_wp2
              go_ret
              have hD := (HW.out.far (p := ⟨gs, j, none⟩) hne1 (.bool true)).set_ j (.int .i64 k)
              have hE := HC1.out.far (p := ⟨gw, j, none⟩) hne2 (.int .i64 k)
              rw [workA_set] at hD
              rw [crewA_set] at hE
              rw [HE.out, hstep.out]
              exact ⟨rfl, hD, hE, (HT.out.set (Or.inr rfl) _).set (Or.inl rfl) _⟩
            · have hfr := (HF'.out j hlt).resolve_left hfj
              obtain ⟨m, hm⟩ : ∃ m : Nat, f' j = (m : Int) := ⟨(f' j).toNat, by omega⟩
              have hml : m < cs.length := by omega
              have hmt : (f' j).toNat = m := by omega
              have hfb : ((m : Int) == -1) = false := by simp
              rw [hm] at hcW
              have hun1 : unseen (upd s' j true) < n := by
                have h1 := unseen_upd s' j hlt hsj
                have h2 := unseen_mono HS.out
                have h3 := HUN.out
                omega
              have hcall := Lib.hid (IH.out m f' (upd s' j true) (wr.setCell ⟨gs, j, none⟩ (.bool true)) hun1 hml HF'.out
                (HR.out.below HU.out ((HT.out.set (p := ⟨gs, j, none⟩) (Or.inr rfl) (.bool true)).below hw hs)) (HW.out.far (p := ⟨gs, j, none⟩) hne1 (.bool true)) (by rw [← crewA_set]; exact HC1.out))
              have hkp := Lib.hid (fillM_keeps cs cs.length n m f' (upd s' j true) hml HF'.out)
              cases hres : (fillM cs n m f' (upd s' j true)).1 with
              | true =>
                have hstep := Lib.hid ((congrArg (fun l => loopM (fillM cs n) (csAt cs k) k l f' s') hdrop.out).trans (loopM_yes hgo.out hfj (by rw [hmt]; exact hres)))
                rw [hmt] at hstep
                clear hfr hm hmt hfj hun1
                go_wp2_with (go_at_call 47; refine hcall.out.mono ?_; rintro e w2 ⟨rfl, hBw2, hBs2, hT2⟩; rw [hres]; have hcW2 := hBw2.cell j; rw [workA_get _ _ hlt] at hcW2; have hcG2 := hBw2.frozen j; have hBw2 := Lib.hid hBw2; have hBs2 := Lib.hid hBs2; have hT2 := Lib.hid hT2)
                go_ret
                have hD := hBw2.out.set_ j (.int .i64 k)
                have hE := hBs2.out.far (p := ⟨gw, j, none⟩) hne2 (.int .i64 k)
                rw [workA_set] at hD
                rw [HE.out, hstep.out]
                exact ⟨rfl, hD, hE, ((HT.out.set (Or.inr rfl) _).trans hT2.out).set (Or.inl rfl) _⟩
              | false =>
                have hstep := Lib.hid ((congrArg (fun l => loopM (fillM cs n) (csAt cs k) k l f' s') hdrop.out).trans (loopM_no hgo.out hfj (by rw [hmt]; exact hres)))
                rw [hmt] at hstep
                clear hfr hm hmt hfj hun1
                go_wp2_with (go_at_call 47; refine hcall.out.mono ?_; rintro e w2 ⟨rfl, hBw2, hBs2, hT2⟩; rw [hres]; have hBw2 := Lib.hid hBw2; have hBs2 := Lib.hid hBs2; have hT2 := Lib.hid hT2)
                go_roundw
                case rel => exact ⟨j + 1, _, _, by omega, by go_num, Lib.hid (HE.out.trans hstep.out), Lib.hid hkp.out.1, Lib.hid ((HS.out.trans (SubS.upd s' j)).trans hkp.out.2), hBw2, hBs2, Lib.hid ((HT.out.set (Or.inr rfl) _).trans hT2.out)⟩
                case measure => simp [intOf]; omega
      · have hj12 : j = 12 := by omega
        have hend := Lib.hid (show loopM (fillM cs n) (csAt cs k) k ((List.range 12).drop j) f' s' = (false, f', s') by rw [hj12]; rfl)
        clear hj12
        go_wp2
        go_ret
        rw [HE.out, hend.out]
        exact ⟨rfl, HW.out, HC.out, HT.out⟩
end Go.Proofs.Ythfcllefmeoicaa
