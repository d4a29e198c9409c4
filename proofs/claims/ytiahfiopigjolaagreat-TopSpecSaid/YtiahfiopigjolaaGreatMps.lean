/- A map of bools that a call makes: its look-up; the names that a loop has put in. -/
import Derived.Test.YtiahfiopigjolaaGreatSiz
import Derived.Maps.OwnOps
import Derived.Maps.Views
namespace Go.Proofs.YtiahfiopigjolaaGreat
open Go Go.RowKit Go.Maps

section
variable {H : Type}
theorem plainElem_bool_inv {P : Program} {e : TypeId} (he : P.underlying e = some .bool) {v : Value} {z : DataW H × List MemPlace} (h : plainElem P e v = some z) : ∃ a, v = .bool a ∧ z = (.lit (.bool a), []) := by
  unfold plainElem at h
  rw [he] at h
  cases v <;> simp at h
  exact ⟨_, rfl, h.symm⟩
theorem wpList_lookup_own_bool {P : Program} (w : World) {ops : Array Oper} {rest : List Oper} {o : Oper} {a : Act} {Q : Exit → Act → World → Prop}
    (hg : o.guard = none) (m x : Operand) (t : TypeId) (hop : o.op = Op.lookup t m x false)
    (k e : TypeId) (K : Keyed P k) (ht : P.underlying t = some (.map k e)) (he : P.underlying e = some .bool) (hz : (zeroValue e).run P w = .ok (.bool false) w) (b n : Nat) (D : DataW H)
    (hm : a.eval m = .map (some b)) (hown : w.ownsMap P k (plainElem P e) b n D) (key : Value) (kl : Lit) (hx : a.eval x = key) (hkey : keyOf P k key = some kl)
    (hK : ∀ c : Bool, D.atKey kl (.lit (.bool false)) = .lit (.bool c) → wpList P ops Q rest (a.put o.dst (.bool c)) w) :
    wpList P ops Q (o :: rest) a w := by
  refine wpList_plain hg fun K' hK' => ?_
  obtain ⟨v, ps, hrun, hv⟩ := hown.lookup K ht hz (plainElem_bool he false) hkey
  obtain ⟨c, rfl, hc⟩ := plainElem_bool_inv he hv
  simp only [Prod.mk.injEq] at hc
  unfold Oper.wp
  simp [execOp, hop, hm, hx, hrun, Result.andThen]
  exact hK' _ _ (hK c hc.1)

/-- the first k names, each at true -/
def Kd (l : List ByteArray) : Nat → DataW H
  | 0 => .map []
  | k + 1 => (Kd l k).put (.string (nth l k).data.toList) (.lit (.bool true))
theorem Kd_map (l : List ByteArray) : ∀ k, IsMap (Kd (H := H) l k)
  | 0 => ⟨[], rfl⟩
  | k + 1 => by
    obtain ⟨es, h⟩ := Kd_map l k
    unfold Kd
    rw [h]
    exact ⟨_, rfl⟩
theorem key_ne {s t : ByteArray} (h : ¬ s = t) : (Lit.string s.data.toList) ≠ .string t.data.toList := fun e => by
  injection e with e
  apply h
  obtain ⟨⟨a⟩⟩ := s
  obtain ⟨⟨b⟩⟩ := t
  have : a = b := e
  rw [this]
/-- what the map says of a name: has it come among the first k? -/
theorem Kd_at (l : List ByteArray) (s : ByteArray) : ∀ k, (Kd (H := H) l k).atKey (.string s.data.toList) (.lit (.bool false)) = .lit (.bool (decide (upto (fun j => if nth l j = s then 7 else 0) k ≠ 0)))
  | 0 => by simp [Kd, upto, DataW.atKey]
  | k + 1 => by
    unfold Kd
    by_cases h : nth l k = s
    · rw [h, atKey_put_same (Kd_map l k) (by simp [WideAt.IsKeyLit])]
      have : upto (fun j => if nth l j = s then (7 : Int) else 0) (k + 1) ≠ 0 := by
        rw [upto]
        split
        · decide
        · assumption
      simp [this]
    · rw [atKey_put_other (key_ne (fun e => h e.symm)), Kd_at l s k]
      congr 2
      rw [upto]
      split
      · rename_i h0
        rw [h0]
      · rfl
end

theorem law_str : Keyed Tryz.prog 9 := string_keyed Tryz.underlying9
theorem zero_bool (w : World) : (zeroValue 4).run Tryz.prog w = .ok (.bool false) w := by kernel_rfl

end Go.Proofs.YtiahfiopigjolaaGreat
