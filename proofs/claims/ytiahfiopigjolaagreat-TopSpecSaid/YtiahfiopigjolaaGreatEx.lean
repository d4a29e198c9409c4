/- The example's style and point of measure, in plain Lean. -/
import Derived.Test.YtiahfiopigjolaaGreatJdg
import Derived.Test.YtiahfiopigjolaaGreatTar
namespace Go.Proofs.YtiahfiopigjolaaGreat
open Go Go.RowKit

def bLow : ByteArray := ⟨#[108, 111, 119]⟩
def bRight : ByteArray := ⟨#[114, 105, 103, 104, 116]⟩
def bHigh : ByteArray := ⟨#[104, 105, 103, 104]⟩
def bLeft : ByteArray := ⟨#[108, 101, 102, 116]⟩
def bFront : ByteArray := ⟨#[102, 114, 111, 110, 116]⟩
def bShirt : ByteArray := ⟨#[115, 104, 105, 114, 116]⟩
def bS : ByteArray := ⟨#[83]⟩
def bM : ByteArray := ⟨#[77]⟩
def bHem : ByteArray := ⟨#[104, 101, 109]⟩
def exEdges : List Ed := [⟨bLow, [⟨0, 0⟩, ⟨10, 0⟩]⟩, ⟨bRight, [⟨10, 0⟩, ⟨10, 8⟩]⟩, ⟨bHigh, [⟨10, 8⟩, ⟨0, 8⟩]⟩, ⟨bLeft, [⟨0, 8⟩, ⟨0, 0⟩]⟩]
def exPiece : Pc := ⟨bFront, exEdges, 2, [], [⟨0, 0⟩, ⟨1, 0⟩, ⟨1, 0⟩, ⟨0, 0⟩], [0, 1, 0, 0], false⟩
def exStyle : St := ⟨bShirt, [bS, bM], [0, 2], [exPiece], [⟨0, 1, false⟩], [], 0⟩
def exPom : Pm := ⟨bHem, [0], [0], 5, 5⟩

theorem ex_spec : specE exStyle [exPom] = 0 := by decide +kernel
theorem ex_t0 : targetE exStyle exPom 0 = 0 := by decide +kernel
theorem ex_t2 : targetE exStyle exPom 2 = 0 := by decide +kernel
theorem ex_n0 : targetN exStyle exPom 0 = 10000 := by decide +kernel
theorem ex_n2 : targetN exStyle exPom 2 = 12000 := by decide +kernel
theorem ex_a : taE exStyle exPom 0 = 0 ∧ taN exStyle exPom 0 = 10000 := by
  have h := ta_run (z := 0) ex_spec (by decide)
  have e : nth exStyle.mults (0 : Int).toNat = 0 := rfl
  rw [e] at h
  exact ⟨h.1.trans ex_t0, h.2.trans ((tgN_ok ex_t0).trans ex_n0)⟩
theorem ex_b : taE exStyle exPom 1 = 0 ∧ taN exStyle exPom 1 = 12000 := by
  have h := ta_run (z := 1) ex_spec (by decide)
  have e : nth exStyle.mults (1 : Int).toNat = 2 := rfl
  rw [e] at h
  exact ⟨h.1.trans ex_t2, h.2.trans ((tgN_ok ex_t2).trans ex_n2)⟩
theorem ex_jd {x : Int} (h0 : 0 ≤ x) (h1 : x ≤ 35184372088832) : JdOk exStyle [exPom] 0 0 [x] where
  spec := ex_spec
  len := rfl
  z1 := by decide
  z2 := by decide
  m_ := fun _ => rfl
  in_ := fun k hk => by
    have hk : k < 1 := hk
    obtain rfl : k = 0 := by omega
    exact ⟨h0, h1⟩
  tg := fun k hk => by
    have hk : k < 1 := hk
    obtain rfl : k = 0 := by omega
    exact ex_t0
theorem ex_in : inB exStyle [exPom] 0 [10005] = true := by
  refine decide_eq_true fun k hk => ?_
  have hk : k < 1 := hk
  obtain rfl : k = 0 := by omega
  show outN exPom (targetN exStyle exPom 0) 10005 = 0
  rw [ex_n0]; decide
theorem ex_out : jdAt exStyle [exPom] 0 [9990] 1 0 = -5 := by
  show outN exPom (targetN exStyle exPom 0) 9990 = -5
  rw [ex_n0]; decide

end Go.Proofs.YtiahfiopigjolaaGreat
