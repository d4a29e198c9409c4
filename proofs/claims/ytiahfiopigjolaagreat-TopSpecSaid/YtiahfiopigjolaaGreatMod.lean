/- Styles and points of measure in plain Lean: what the checks, the grading and the targets compute. -/
import Derived.Lib.BitFns
namespace Go.Proofs.YtiahfiopigjolaaGreat

abbrev B := List UInt8
structure Sp where
  x : Int
  y : Int
deriving DecidableEq, Inhabited
structure Ed where
  name : ByteArray
  line : List Sp
deriving Inhabited
structure Nt where
  edge : Int
  at_ : Int
deriving Inhabited
structure Pc where
  name : ByteArray
  edges : List Ed
  grain : Int
  notches : List Nt
  corners : List Sp
  widths : List Int
  mat : Bool
deriving Inhabited
structure Us where
  piece : Int
  count : Int
  pair : Bool
deriving Inhabited
structure Sm where
  pa : Int
  ea : Int
  pb : Int
  eb : Int
  rev : Bool
  ease : Int
deriving Inhabited
structure St where
  name : ByteArray
  sizes : List ByteArray
  mults : List Int
  pieces : List Pc
  uses : List Us
  seams : List Sm
  nops : Nat
deriving Inhabited
structure Pm where
  name : ByteArray
  pieces : List Int
  edges : List Int
  plus : Int
  minus : Int
deriving Inhabited

/-! ### The first error of a row of tests -/

/-- the element at k, wherever k lies -/
def nth {α : Type} [Inhabited α] (l : List α) (k : Nat) : α := l.getD k default
theorem nth_eq {α : Type} [Inhabited α] (l : List α) {k : Nat} (h : k < l.length) : nth l k = l[k] := by
  unfold nth; simp [h]

/-- the first of f 0, f 1, .., f (n - 1) that is not 0; else 0 -/
def upto (f : Nat → Int) : Nat → Int
  | 0 => 0
  | n + 1 => if upto f n = 0 then f n else upto f n
theorem upto_next {f : Nat → Int} {k : Nat} (h : upto f k = 0) (hf : f k = 0) : upto f (k + 1) = 0 := by
  rw [upto, if_pos h, hf]
theorem upto_keep {f : Nat → Int} {k : Nat} (h : upto f k ≠ 0) : ∀ n, k ≤ n → upto f n = upto f k
  | 0, hn => by rw [Nat.le_zero.1 hn]
  | n + 1, hn => by
    rcases Nat.lt_or_ge k (n + 1) with h1 | h1
    · rw [upto, upto_keep h n (by omega), if_neg h]
    · rw [show k = n + 1 by omega]
theorem upto_hit {f : Nat → Int} {k n : Nat} (h : upto f k = 0) (hf : f k ≠ 0) (hk : k < n) : upto f n = f k := by
  have h1 : upto f (k + 1) = f k := by rw [upto, if_pos h]
  rw [upto_keep (by rw [h1]; exact hf) n hk, h1]
theorem upto_zero {f : Nat → Int} : ∀ {n : Nat}, upto f n = 0 → ∀ k, k < n → f k = 0
  | 0, _, k, hk => absurd hk (by omega)
  | n + 1, h, k, hk => by
    rw [upto] at h
    split at h
    · rename_i h0
      rcases Nat.lt_or_ge k n with h1 | h1
      · exact upto_zero h0 k h1
      · rw [show k = n by omega]; exact h
    · rename_i h0; exact absurd h h0
theorem upto_all {f : Nat → Int} : ∀ {n : Nat}, (∀ k, k < n → f k = 0) → upto f n = 0
  | 0, _ => rfl
  | n + 1, h => by rw [upto, if_pos (upto_all fun k hk => h k (by omega))]; exact h n (by omega)
theorem upto_congr {f g : Nat → Int} : ∀ {n : Nat}, (∀ k, k < n → f k = g k) → upto f n = upto g n
  | 0, _ => rfl
  | n + 1, h => by
    rw [upto, upto, upto_congr fun k hk => h k (by omega), h n (by omega)]

/-! ### Polylines -/
def inR (lo hi n : Int) : Bool := decide (lo ≤ n ∧ n ≤ hi)
def outB (s : Sp) : Bool := !(inR (-1048576) 1048576 s.x && inR (-1048576) 1048576 s.y)
def adjE (l : List Sp) (i : Nat) : Int := if nth l i = nth l (i + 1) then 11 else 0
def plCheck (l : List Sp) : Int :=
  if 40 < l.length then 5 else if l.length < 2 then 11 else if l.any outB then 3 else upto (adjE l) (l.length - 1)

/-- Newton's steps down from x; the number of steps is bounded by k -/
def newt (n : Int) : Nat → Int → Int
  | 0, x => x
  | k + 1, x => if x ≤ (x + n / x) / 2 then x else newt n k ((x + n / x) / 2)
def start (n : Int) : Int := 2 ^ ((Go.Lib.bitLen n.toNat + 1) / 2)
def root (n : Int) : Int := if n < 2 then n else newt n (start n).toNat (start n)
def seg (p q : Sp) : Int := root (1000000 * ((q.x - p.x) * (q.x - p.x) + (q.y - p.y) * (q.y - p.y)))
def sumTo (f : Nat → Int) : Nat → Int
  | 0 => 0
  | n + 1 => sumTo f n + f n
def segAt (l : List Sp) (i : Nat) : Int := seg (nth l i) (nth l (i + 1))
def plLen (l : List Sp) : Int := sumTo (segAt l) (l.length - 1)

/-! ### Polygons -/
def cross (a b c : Sp) : Int := (b.x - a.x) * (c.y - a.y) - (b.y - a.y) * (c.x - a.x)
def onB (a b p : Sp) : Bool := decide (cross a b p = 0) && (decide (min a.x b.x ≤ p.x) && (decide (p.x ≤ max a.x b.x) && (decide (min a.y b.y ≤ p.y) && decide (p.y ≤ max a.y b.y))))
def sgn (n : Int) : Int := if n < 0 then -1 else if 0 < n then 1 else 0
def partB (a b c d : Sp) : Bool := decide (sgn (cross a b c) * sgn (cross a b d) < 0)
def meetB (a b c d : Sp) : Bool := onB a b c || (onB a b d || (onB c d a || (onB c d b || (partB a b c d && partB c d a b))))
def foldB (a b c : Sp) : Bool := decide (cross a b c = 0) && decide (0 < (a.x - b.x) * (c.x - b.x) + (a.y - b.y) * (c.y - b.y))
def twiceE (p : List Sp) (i : Nat) : Int := if nth p i ∈ p.take i then 1 else 0
/-- where the inner loop over the sides ends -/
def lastK (n i : Nat) : Nat := if i = 0 then n - 1 else n
def meetE (p : List Sp) (i k : Nat) : Int := if k < i + 2 then 0 else if meetB (nth p i) (nth p ((i + 1) % p.length)) (nth p k) (nth p ((k + 1) % p.length)) then 1 else 0
def sideE (p : List Sp) (i : Nat) : Int :=
  if foldB (nth p i) (nth p ((i + 1) % p.length)) (nth p ((i + 2) % p.length)) then 1 else upto (meetE p i) (lastK p.length i)
def simpB (p : List Sp) : Bool := decide (upto (twiceE p) p.length = 0) && decide (upto (sideE p) p.length = 0)
def pgCheck (p : List Sp) : Int :=
  if 40 < p.length then 5 else if p.length < 3 then 11 else if p.any outB then 3 else if simpB p then 0 else 11

/-! ### Names -/
/-- the byte at place i of a name -/
def chOk (i : Nat) (c : UInt8) : Bool := (decide (97 ≤ c.toNat) && decide (c.toNat ≤ 122)) || (!(i == 0) && (c.toNat == 95 || (decide (48 ≤ c.toNat) && decide (c.toNat ≤ 57))))
/-- s is a name -/
def nmB (s : ByteArray) : Bool :=
  !(s.size == 0) && decide (s.size ≤ 24) && !(s.toList == [109, 105, 110]) && !(s.toList == [109, 97, 120]) && (List.range s.size).all fun i => chOk i (s.data[i]!)
def szCh (c : UInt8) : Bool := (decide (65 ≤ c.toNat) && decide (c.toNat ≤ 90)) || (decide (48 ≤ c.toNat) && decide (c.toNat ≤ 57))
def szB (s : ByteArray) : Bool := ((List.range s.size).all fun i => szCh (s.data[i]!)) && decide (1 ≤ s.size ∧ s.size ≤ 8)
/-! ### Outlines -/
def sameE (l : List Ed) (i j : Nat) : Int := if (nth l j).name = (nth l i).name then 7 else 0
def edgeE (l : List Ed) (i : Nat) : Int :=
  if nmB (nth l i).name then (if upto (sameE l i) i = 0 then plCheck (nth l i).line else 7) else 1
def shutE (l : List Ed) (i : Nat) : Int :=
  if nth (nth l i).line ((nth l i).line.length - 1) = nth (nth l ((i + 1) % l.length)).line 0 then 0 else 11
def verts (l : List Ed) : List Sp := l.flatMap fun e => e.line.take (e.line.length - 1)
def olCheck (l : List Ed) : Int :=
  if 16 < l.length then 5 else if l.length < 2 then 11
  else if upto (edgeE l) l.length = 0 then (if upto (shutE l) l.length = 0 then pgCheck (verts l) else 11) else upto (edgeE l) l.length

/-! ### Grading -/
def half (a b : Int) : Int := (2 * a + b) / (2 * b)
def rnd (a b : Int) : Int := if a < 0 then -(half (-a) b) else half a b
def cornerAt (l : List Sp) (m : Int) (i : Nat) : Sp := ⟨m * (nth l (i % l.length)).x, m * (nth l (i % l.length)).y⟩
def movedAt (l : List Sp) (a b : Sp) (k : Nat) : Sp :=
  ⟨(nth l k).x + rnd (((l.length - 1 : Nat) - (k : Int)) * a.x + k * b.x) (l.length - 1 : Nat), (nth l k).y + rnd (((l.length - 1 : Nat) - (k : Int)) * a.y + k * b.y) (l.length - 1 : Nat)⟩
def moved (l : List Sp) (a b : Sp) : List Sp := (List.range l.length).map (movedAt l a b)
def gradedAt (p : Pc) (m : Int) (i : Nat) : Ed := ⟨(nth p.edges i).name, moved (nth p.edges i).line (cornerAt p.corners m i) (cornerAt p.corners m (i + 1))⟩
def gradedL (p : Pc) (m : Int) : List Ed := (List.range p.edges.length).map (gradedAt p m)
def shiftE (l : List Sp) (i : Nat) : Int := if inR (-1000) 1000 (nth l i).x && inR (-1000) 1000 (nth l i).y then 0 else 3
def gradeE (p : Pc) (m : Int) : Int :=
  if inR (-100) 100 m then
    (if p.corners.length = p.edges.length then
      (if upto (shiftE p.corners) p.corners.length = 0 then
        (if olCheck p.edges = 0 then olCheck (gradedL p m) else olCheck p.edges)
      else 3)
    else 1)
  else 3
def graded (p : Pc) (m : Int) : List Ed := if gradeE p m = 0 then gradedL p m else []

/-! ### Notches -/
def partnerOk (fr to at_ : Int) : Bool := inR 1 1099511627776 fr && (inR 0 1099511627776 to && inR 0 fr at_)
def partner (fr to at_ : Int) : Int := if fr ≤ 2 * (at_ * to % fr) then at_ * to / fr + 1 else at_ * to / fr
def lineAt (l : List Ed) (k : Int) : List Sp := (nth l k.toNat).line
def notchE (p : Pc) (m : Int) (i : Nat) : Int :=
  if inR 0 ((p.edges.length : Int) - 1) (nth p.notches i).edge then
    (if partnerOk (plLen (lineAt p.edges (nth p.notches i).edge)) (plLen (lineAt (gradedL p m) (nth p.notches i).edge)) (nth p.notches i).at_ then 0 else 3)
  else 3
def placedE (p : Pc) (m : Int) : Int :=
  if gradeE p m = 0 then (if 16 < p.notches.length then 5 else upto (notchE p m) p.notches.length) else gradeE p m

/-! ### Styles -/
def dupE (l : List ByteArray) (i : Nat) : Int := upto (fun j => if nth l j = nth l i then 7 else 0) i
def multE (l : List Int) (i : Nat) : Int := if inR (-100) 100 (nth l i) then 0 else 3
def sizeE (l : List ByteArray) (i : Nat) : Int := if szB (nth l i) then 0 else 1
def wholeE (s : St) : Int :=
  if nmB s.name && decide (s.sizes ≠ []) then
    (if upto (sizeE s.sizes) s.sizes.length = 0 then
      (if s.mults.length = s.sizes.length ∧ (0 : Int) ∈ s.mults then
        (if upto (dupE s.sizes) s.sizes.length = 0 then
          (if 12 < s.sizes.length ∨ 12 < s.pieces.length ∨ 12 < s.uses.length then 5
          else if 24 < s.seams.length ∨ 16 < s.nops then 5
          else upto (multE s.mults) s.mults.length)
        else 7)
      else 1)
    else 1)
  else 1
def grainB (n : Int) : Bool := decide (n = 1 ∨ n = 2 ∨ n = 4)
def pnameE (l : List Pc) (i j : Nat) : Int := if (nth l j).name = (nth l i).name then 7 else 0
def widthE (l : List Int) (i : Nat) : Int := if inR 0 500 (nth l i) then 0 else 3
def pieceE (l : List Pc) (i : Nat) : Int :=
  if nmB (nth l i).name then
    (if grainB (nth l i).grain then
      (if upto (pnameE l i) i = 0 then
        (if gradeE (nth l i) 0 = 0 then
          (if placedE (nth l i) 0 = 0 then
            (if (nth l i).widths.length = (nth l i).edges.length then upto (widthE (nth l i).widths) (nth l i).widths.length else 1)
          else placedE (nth l i) 0)
        else gradeE (nth l i) 0)
      else 7)
    else 1)
  else 1
def useE (s : St) (i : Nat) : Int := if inR 0 ((s.pieces.length : Int) - 1) (nth s.uses i).piece && inR 1 4 (nth s.uses i).count then 0 else 3
def edgeB (s : St) (p e : Int) : Bool := inR 0 ((s.pieces.length : Int) - 1) p && inR 0 (((nth s.pieces p.toNat).edges.length : Int) - 1) e
def seamE (s : St) (i : Nat) : Int :=
  if edgeB s (nth s.seams i).pa (nth s.seams i).ea && edgeB s (nth s.seams i).pb (nth s.seams i).eb then (if (nth s.seams i).ease < 0 then 1 else 0) else 3
def styleE (s : St) : Int :=
  if wholeE s = 0 then
    (if upto (pieceE s.pieces) s.pieces.length = 0 then
      (if upto (useE s) s.uses.length = 0 then upto (seamE s) s.seams.length else 3)
    else upto (pieceE s.pieces) s.pieces.length)
  else wholeE s

/-! ### Points of measure -/
def pomNameE (l : List Pm) (i j : Nat) : Int := if (nth l j).name = (nth l i).name then 7 else 0
def pomAtE (s : St) (p : Pm) (k : Nat) : Int := if edgeB s (nth p.pieces k) (nth p.edges k) then 0 else 3
def pomE (s : St) (l : List Pm) (i : Nat) : Int :=
  if nmB (nth l i).name ∧ (nth l i).edges.length = (nth l i).pieces.length ∧ (nth l i).pieces.length ≠ 0 ∧ (nth l i).pieces.length ≤ 16 then
    (if upto (pomNameE l i) i = 0 then
      (if upto (pomAtE s (nth l i)) (nth l i).pieces.length = 0 then
        (if inR 0 1073741824 (nth l i).plus && inR 0 1073741824 (nth l i).minus then 0 else 3)
      else 3)
    else 7)
  else 1
def specE (s : St) (l : List Pm) : Int :=
  if styleE s = 0 then (if 16 < l.length then 5 else upto (pomE s l) l.length) else styleE s
def targetAtE (s : St) (p : Pm) (m : Int) (k : Nat) : Int := gradeE (nth s.pieces (nth p.pieces k).toNat) m
def targetAt (s : St) (p : Pm) (m : Int) (k : Nat) : Int := plLen (lineAt (gradedL (nth s.pieces (nth p.pieces k).toNat) m) (nth p.edges k))
/-- the targets that are found: each point's graded outlines have no error -/
def targetE (s : St) (p : Pm) (m : Int) : Int := upto (targetAtE s p m) p.pieces.length
def targetN (s : St) (p : Pm) (m : Int) : Int := sumTo (targetAt s p m) p.pieces.length

end Go.Proofs.YtiahfiopigjolaaGreat
