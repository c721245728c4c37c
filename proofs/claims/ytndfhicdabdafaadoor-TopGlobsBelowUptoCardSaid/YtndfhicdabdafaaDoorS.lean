/- What the checks of globs answer, in plain words of Lean: no program and no memory here. -/
import Derived.Test.YtndfhicdabdafaaDoorM
namespace Go.Proofs.YtndfhicdabdafaaDoor
open Go Go.RowKit

/-- The bytes of a text. -/
abbrev byts (s : ByteArray) : List UInt8 := s.data.toList

/-- A part that has not its form (its kind being one). -/
def badB (p : Part) : Bool :=
  let text := !decide (p.text = ⟨#[]⟩)
  let set := p.neg || decide (0 < p.ranges.length)
  let ways := decide (0 < p.ways.length)
  if p.kind = 1 then set || (ways || (!text || decide ((0 : UInt8) ∈ byts p.text)))
  else if p.kind = 5 then text || (ways || decide (p.ranges.length = 0))
  else if p.kind = 6 then text || (set || !ways)
  else text || (set || ways)

def rangeBad (r : Int × Int) : Bool := decide (r.1 < 1) || (decide (255 < r.1) || (decide (r.2 < 1) || (decide (255 < r.2) || (decide (r.2 < r.1) || (decide (r.1 ≤ 47) && decide (47 ≤ r.2))))))
/-- The error of ranges; prev: where the one before ends. -/
def rangesF : Option Int → List (Int × Int) → Int
  | _, [] => 0
  | prev, r :: l => if rangeBad r then 7 else if (match prev with | some q => decide (r.1 ≤ q + 1) | none => false) then 10 else rangesF (some r.2) l

def isTextP (p : Part) : Bool := decide (p.kind = 1)
def headText : List Part → Bool
  | [] => false
  | p :: _ => isTextP p
mutual
/-- The error of what stands in a part's ways. -/
def Part.checkIn : Part → Int
  | .mk _ _ _ _ ws => checkW ws
/-- The error of a list of parts; prev: a text stands before it. -/
def checkL (prev : Bool) : List Part → Int
  | [] => 0
  | p :: ps =>
    if p.kind < 1 ∨ 6 < p.kind then 5 else if badB p then 6 else if isTextP p && (prev || headText ps) then 6
    else if rangesF none p.ranges ≠ 0 then rangesF none p.ranges
    else if p.checkIn ≠ 0 then p.checkIn
    else checkL (isTextP p) ps
def checkW : List (List Part) → Int
  | [] => 0
  | x :: xs => if checkL false x ≠ 0 then checkL false x else checkW xs
end

def starP (p : Part) : Bool := decide (p.kind = 3) || decide (p.kind = 4)
mutual
def Part.starsIn : Part → Bool
  | .mk _ _ _ _ ws => starsW ws
/-- Stars stand directly behind stars. -/
def starsL (prev : Bool) : List Part → Bool
  | [] => false
  | p :: ps => if prev && starP p then true else if p.starsIn then true else starsL (starP p) ps
def starsW : List (List Part) → Bool
  | [] => false
  | x :: xs => if starsL false x then true else starsW xs
end

/-! ### the text of a glob -/

def escL (some : List UInt8) (s : List UInt8) : List UInt8 := s.flatMap fun c => if c ∈ some then [92, c] else [c]
def byteI (n : Int) : UInt8 := (n % 256).toNat.toUInt8
def boundL (n : Int) : List UInt8 := escL [92, 93, 94, 45] [byteI n]
def rangeL (r : Int × Int) : List UInt8 := boundL r.1 ++ (if IntKind.i64.wrap (r.1 + 1) < r.2 then [45] else []) ++ (if r.1 < r.2 then boundL r.2 else [])
def setL (p : Part) : List UInt8 := 91 :: ((if p.neg then [94] else []) ++ p.ranges.flatMap rangeL ++ [93])
def someL (within : Bool) : List UInt8 := [92, 42, 63, 91, 93, 123, 125] ++ (if within then [44] else [])
mutual
def Part.print (within : Bool) : Part → List UInt8
  | .mk k t n rs ws =>
    if k = 1 then escL (someL within) (byts t) else if k = 2 then [63] else if k = 3 then [42] else if k = 4 then [42, 42]
    else if k = 5 then setL (.mk k t n rs ws) else if k = 6 then printW true ws ++ [125] else []
def printL (within : Bool) : List Part → List UInt8
  | [] => []
  | p :: ps => p.print within ++ printL within ps
def printW (first : Bool) : List (List Part) → List UInt8
  | [] => []
  | x :: xs => (if first then 123 else 44) :: (printL true x ++ printW false xs)
end

/-- A glob. -/
structure GlobD where
  rooted : Bool
  dirs : Bool
  parts : List Part

def lastSlash (ps : List Part) : Bool :=
  match ps.getLast? with
  | some p => isTextP p && decide ((byts p.text).getLast? = some 47)
  | none => false
/-- The text of a glob whose parts are right. -/
def globL (g : GlobD) : List UInt8 :=
  let s := printL false g.parts
  let s := if !g.dirs && lastSlash g.parts then s.dropLast ++ [92, 47] else s
  let s := if !g.rooted && decide (s.head? = some 47) then 92 :: s else s
  let s := if g.rooted then 47 :: s else s
  if g.dirs then s ++ [47] else s

/-- The error of a glob. -/
def checkG (g : GlobD) : Int :=
  if 200 < cntP g.parts ∨ 5 < depP g.parts then 8
  else if checkL false g.parts ≠ 0 then checkL false g.parts
  else if g.parts.length = 0 then 21
  else if starsL false g.parts then 6
  else if 200 < (globL g).length then 8 else 0

theorem getD_at {α : Type} {l : List α} {i : Nat} (h : i < l.length) (d : α) : l.getD i d = l[i] := by simp [h]
theorem rangesF_nil (prev : Option Int) : rangesF prev [] = 0 := by cases prev <;> rfl
theorem rangesF_cons (prev : Option Int) (r : Int × Int) (l : List (Int × Int)) : rangesF prev (r :: l) =
    if rangeBad r then 7 else if (match prev with | some q => decide (r.1 ≤ q + 1) | none => false) then 10 else rangesF (some r.2) l := by cases prev <;> rfl
theorem Part.checkIn_eq (p : Part) : p.checkIn = checkW p.ways := by cases p; rfl
theorem Part.starsIn_eq (p : Part) : p.starsIn = starsW p.ways := by cases p; rfl
theorem checkL_cons (prev : Bool) (p : Part) (ps : List Part) : checkL prev (p :: ps) =
    (if p.kind < 1 ∨ 6 < p.kind then 5 else if badB p then 6 else if isTextP p && (prev || headText ps) then 6
    else if rangesF none p.ranges ≠ 0 then rangesF none p.ranges
    else if p.checkIn ≠ 0 then p.checkIn
    else checkL (isTextP p) ps) := by
  rw [checkL]
theorem checkW_cons (x : List Part) (xs : List (List Part)) : checkW (x :: xs) = if checkL false x ≠ 0 then checkL false x else checkW xs := by rw [checkW]
theorem starsL_cons (prev : Bool) (p : Part) (ps : List Part) : starsL prev (p :: ps) = if prev && starP p then true else if p.starsIn then true else starsL (starP p) ps := by rw [starsL]
theorem starsW_cons (x : List Part) (xs : List (List Part)) : starsW (x :: xs) = if starsL false x then true else starsW xs := by rw [starsW]

theorem firstIdx_iff (s : ByteArray) (c : UInt8) : (0 ≤ firstIdx s c) ↔ c ∈ byts s := by
  unfold firstIdx
  constructor
  · intro h
    split at h
    · rename_i i hi
      have h1 := List.find?_some hi
      have h2 := List.mem_of_find?_eq_some hi
      simp only [beq_iff_eq] at h1
      have hlt : i < s.size := by simpa using h2
      rw [getElem!_pos s i hlt] at h1
      rw [← h1]
      exact List.getElem_mem (by simpa using hlt)
    · omega
  · intro h
    obtain ⟨i, hi, he⟩ := List.getElem_of_mem h
    have hlt : i < s.size := by simpa using hi
    split
    · omega
    · rename_i hn
      exfalso
      have := List.find?_eq_none.1 hn i (by simpa using hlt)
      apply this
      simp only [beq_iff_eq]
      rw [getElem!_pos s i hlt, ← he]
      rfl
end Go.Proofs.YtndfhicdabdafaaDoor
