/- strings.Cut at a line feed, in plain words, and its contract. -/
import Derived.Test.YtmbjlbmfagfneaaDoorRdl
namespace Go.Proofs.YtmbjlbmfagfneaaDoor
open Go Go.RowKit

def cut1 (d : UInt8) : B → B × B × Bool
  | [] => ([], [], false)
  | c :: t => if c = d then ([], t, true) else (c :: (cut1 d t).1, (cut1 d t).2.1, (cut1 d t).2.2)

theorem cut_eq (d : UInt8) : ∀ s : B, Lib.cut s [d] = cut1 d s
  | [] => rfl
  | c :: t => by
    have ih := cut_eq d t
    unfold Lib.cut at ih ⊢
    by_cases h : c = d
    · subst h
      have hix : Lib.index (c :: t) [c] = 0 := by rw [Lib.index]; simp [List.isPrefixOf]
      rw [hix, cut1, if_pos rfl]; rfl
    · have hp : ([d] : List UInt8).isPrefixOf (c :: t) = false := by simp [List.isPrefixOf, Ne.symm h]
      have hix : Lib.index (c :: t) [d] = if Lib.index t [d] == -1 then -1 else Lib.index t [d] + 1 := by rw [Lib.index, hp]; simp
      have hge := Lib.index_ge t [d]
      rw [cut1, if_neg h, ← ih]
      by_cases hm : Lib.index t [d] = -1
      · have h1 : Lib.index (c :: t) [d] = -1 := by rw [hix, if_pos (beq_iff_eq.2 hm)]
        rw [h1, hm]; rfl
      · have h1 : Lib.index (c :: t) [d] = Lib.index t [d] + 1 := by rw [hix, if_neg (fun e => hm (beq_iff_eq.1 e))]
        have h3 : (Lib.index (c :: t) [d]).toNat = (Lib.index t [d]).toNat + 1 := by omega
        rw [if_pos (by omega), if_pos (by omega), h3]; rfl

theorem cuts_cut (d : UInt8) : ∀ s : B, ((cut1 d s).2.2 = true ∧ cuts d s = (cut1 d s).1 :: cuts d (cut1 d s).2.1 ∧ (cut1 d s).1.length + (cut1 d s).2.1.length + 1 = s.length) ∨ ((cut1 d s).2.2 = false ∧ cuts d s = [s])
  | [] => .inr ⟨rfl, rfl⟩
  | c :: t => by
    by_cases h : c = d
    · subst h
      left
      rw [cut1, if_pos rfl, cuts_eq]
      exact ⟨rfl, rfl, by simp⟩
    · rw [cut1, if_neg h, cuts_ne h]
      rcases cuts_cut d t with ⟨h1, h2, h3⟩ | ⟨h1, h2⟩
      · left
        rw [h2]
        exact ⟨h1, rfl, by simp; omega⟩
      · right
        rw [h2]
        exact ⟨h1, rfl⟩

theorem l_cut (s : ByteArray) (w : World) (ht : Tab w) (hs : s.size < 4294967281) :
    Calls Tryd.prog 26 #[.string s, .string ⟨#[10]⟩] w fun e w' => e = .returned (.tuple #[.string (ofB (cut1 10 (bs s)).1), .string (ofB (cut1 10 (bs s)).2.1), .bool (cut1 10 (bs s)).2.2]) ∧ Ext w w' := by
  obtain ⟨_, m, hm⟩ := ht
  refine (Tryd.strings_Cut s ⟨#[10]⟩ m w hs hm).mono ?_
  rintro e w' ⟨rfl, n, rfl⟩
  have e1 : Lib.cut s.data.toList (⟨#[10]⟩ : ByteArray).data.toList = cut1 10 (bs s) := cut_eq 10 (bs s)
  rw [e1]
  exact ⟨rfl, (Ext.refl w).drewN n⟩

end Go.Proofs.YtmbjlbmfagfneaaDoor
