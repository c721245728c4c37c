/- The language of a glob's parts, in plain words of Lean; what a pass over a text computes. -/
import Derived.Test.YtndfhicdabdafaaDoorS
namespace Go.Proofs.YtndfhicdabdafaaDoor
open Go Go.RowKit

def inR (rs : List (Int × Int)) (c : UInt8) : Bool := rs.any fun r => decide (r.1 ≤ (c.toNat : Int)) && decide ((c.toNat : Int) ≤ r.2)
def oneB (p : Part) (c : UInt8) : Bool := decide (c ≠ 47) && (decide (p.kind = 2) || (inR p.ranges c != p.neg))
def starB (k : Int) (c : UInt8) : Bool := decide (c ≠ 47) || decide (k = 4)

mutual
def Lp : Part → List UInt8 → Prop
  | .mk k t n rs ws => fun l => (k = 1 ∧ l = byts t) ∨ ((k = 2 ∨ k = 5) ∧ ∃ c, l = [c] ∧ oneB (.mk k t n rs ws) c = true) ∨ ((k = 3 ∨ k = 4) ∧ ∀ c ∈ l, starB k c = true) ∨ (k = 6 ∧ LW ws l)
def LP : List Part → List UInt8 → Prop
  | [] => fun l => l = []
  | p :: ps => fun l => ∃ a b, l = a ++ b ∧ Lp p a ∧ LP ps b
def LW : List (List Part) → List UInt8 → Prop
  | [] => fun _ => False
  | x :: xs => fun l => LP x l ∨ LW xs l
end
theorem Lp_eq (p : Part) (l : List UInt8) : Lp p l = ((p.kind = 1 ∧ l = byts p.text) ∨ ((p.kind = 2 ∨ p.kind = 5) ∧ ∃ c, l = [c] ∧ oneB p c = true) ∨ ((p.kind = 3 ∨ p.kind = 4) ∧ ∀ c ∈ l, starB p.kind c = true) ∨ (p.kind = 6 ∧ LW p.ways l)) := by
  cases p; rw [Lp]; rfl
theorem LP_nil (l : List UInt8) : LP [] l = (l = []) := by rw [LP]
theorem LP_cons (p : Part) (ps : List Part) (l : List UInt8) : LP (p :: ps) l = ∃ a b, l = a ++ b ∧ Lp p a ∧ LP ps b := by rw [LP]
theorem LW_nil (l : List UInt8) : LW [] l = False := by rw [LW]
theorem LW_cons (x : List Part) (xs : List (List Part)) (l : List UInt8) : LW (x :: xs) l = (LP x l ∨ LW xs l) := by rw [LW]
theorem LW_iff (l : List UInt8) : ∀ ws : List (List Part), LW ws l ↔ ∃ x ∈ ws, LP x l
  | [] => by rw [LW_nil]; simp
  | x :: xs => by rw [LW_cons, LW_iff l xs]; simp
theorem LP_append (l : List UInt8) : ∀ (a b : List Part), LP (a ++ b) l ↔ ∃ x y, l = x ++ y ∧ LP a x ∧ LP b y
  | [], b => by
    rw [List.nil_append]
    constructor
    · intro h; exact ⟨[], l, rfl, by rw [LP_nil], h⟩
    · rintro ⟨x, y, rfl, hx, hy⟩; rw [LP_nil] at hx; subst hx; exact hy
  | p :: a, b => by
    rw [List.cons_append, LP_cons]
    constructor
    · rintro ⟨x, y, rfl, hx, hy⟩
      obtain ⟨y1, y2, rfl, h1, h2⟩ := (LP_append y a b).1 hy
      exact ⟨x ++ y1, y2, by simp, by rw [LP_cons]; exact ⟨x, y1, rfl, hx, h1⟩, h2⟩
    · rintro ⟨x, y, rfl, hx, hy⟩
      rw [LP_cons] at hx
      obtain ⟨x1, x2, rfl, h1, h2⟩ := hx
      exact ⟨x1, x2 ++ y, by simp, h1, (LP_append _ a b).2 ⟨x2, y, rfl, h2, hy⟩⟩

/-- The bytes from i on, before j. -/
def seg (t : ByteArray) (i j : Nat) : List UInt8 := ((byts t).take j).drop i
theorem seg_self (t : ByteArray) (i : Nat) : seg t i i = [] := by unfold seg; rw [List.drop_eq_nil_of_le]; simp; omega
theorem seg_len (t : ByteArray) (i j : Nat) (h : j ≤ t.size) : (seg t i j).length = j - i := by unfold seg; simp; omega
theorem seg_snoc (t : ByteArray) (i j : Nat) (h : j < t.size) (hi : i ≤ j) : seg t i (j + 1) = seg t i j ++ [t[j]] := by
  unfold seg
  have h1 : j < (byts t).length := by simpa using h
  rw [List.take_succ_eq_append_getElem h1, List.drop_append_of_le_length (by simp; omega)]
  rfl
theorem seg_one (t : ByteArray) (j : Nat) (h : j < t.size) : seg t j (j + 1) = [t[j]] := by rw [seg_snoc t j j h (Nat.le_refl _), seg_self, List.nil_append]
theorem seg_append (t : ByteArray) (i j k : Nat) (h : i ≤ j) (h2 : j ≤ k) (h3 : k ≤ t.size) : seg t i k = seg t i j ++ seg t j k := by
  unfold seg
  have e : (byts t).take k = (byts t).take j ++ ((byts t).take k).drop j := by
    have h4 := List.take_append_drop j ((byts t).take k)
    rw [List.take_take, Nat.min_eq_left h2] at h4
    exact h4.symm
  rw [e, List.drop_append_of_le_length (by simp; omega)]
  congr 1
  rw [← e]
theorem seg_extract (t : ByteArray) (i j : Nat) : byts (t.extract i j) = seg t i j := by unfold seg; simp [byts, List.drop_take]
theorem seg_mem (t : ByteArray) (i j : Nat) (c : UInt8) (hj : j ≤ t.size) : c ∈ seg t i j ↔ ∃ k, ∃ h : k < t.size, i ≤ k ∧ k < j ∧ t[k] = c := by
  unfold seg
  constructor
  · intro h
    obtain ⟨n, hn, he⟩ := List.getElem_of_mem h
    have hn' : i + n < j := by simp at hn; omega
    refine ⟨i + n, by omega, by omega, hn', ?_⟩
    rw [← he]
    simp
    rfl
  · rintro ⟨k, h, h1, h2, rfl⟩
    refine List.mem_iff_getElem.2 ⟨k - i, by simp; omega, ?_⟩
    simp
    have : i + (k - i) = k := by omega
    simp [this]
    rfl

/-- Where a pass of a part over a text comes to, from these places on. -/
def Pas (L : List UInt8 → Prop) (t : ByteArray) (fr to : List Bool) : Prop :=
  to.length = fr.length ∧ ∀ j, j ≤ t.size → (to.getD j false = true ↔ ∃ i, i ≤ j ∧ fr.getD i false = true ∧ L (seg t i j))
theorem Pas.nil {t : ByteArray} {fr : List Bool} : Pas (LP []) t fr fr := by
  refine ⟨rfl, fun j hj => ⟨fun h => ⟨j, Nat.le_refl _, h, by rw [LP_nil, seg_self]⟩, ?_⟩⟩
  rintro ⟨i, hi, h, hl⟩
  rw [LP_nil] at hl
  have := congrArg List.length hl
  rw [seg_len t i j hj] at this
  have : i = j := by simp at this; omega
  subst this
  exact h
theorem Pas.append {a b : List Part} {t : ByteArray} {f m g : List Bool} (h1 : Pas (LP a) t f m) (h2 : Pas (LP b) t m g) : Pas (LP (a ++ b)) t f g := by
  refine ⟨h2.1.trans h1.1, fun j hj => ?_⟩
  rw [h2.2 j hj]
  constructor
  · rintro ⟨i, hi, h, hl⟩
    obtain ⟨k, hk, h3, h4⟩ := (h1.2 i (by omega)).1 h
    exact ⟨k, by omega, h3, (LP_append _ a b).2 ⟨_, _, seg_append t k i j hk hi hj, h4, hl⟩⟩
  · rintro ⟨k, hk, h, hl⟩
    obtain ⟨x, y, e, hx, hy⟩ := (LP_append _ a b).1 hl
    have hlen := congrArg List.length e
    rw [seg_len t k j hj, List.length_append] at hlen
    have e2 := seg_append t k (k + x.length) j (by omega) (by omega) hj
    rw [e2] at e
    have e3 := List.append_inj e (by rw [seg_len t _ _ (by omega)]; omega)
    refine ⟨k + x.length, by omega, (h1.2 _ (by omega)).2 ⟨k, by omega, h, by rw [e3.1]; exact hx⟩, by rw [e3.2]; exact hy⟩
theorem LP_one (p : Part) (l : List UInt8) : LP [p] l ↔ Lp p l := by
  rw [LP_cons]
  constructor
  · rintro ⟨a, b, rfl, h1, h2⟩
    rw [LP_nil] at h2
    subst h2
    simpa using h1
  · intro h
    exact ⟨l, [], by simp, h, by rw [LP_nil]⟩
theorem Pas.iff {L L' : List UInt8 → Prop} {t : ByteArray} {f g : List Bool} (h : Pas L t f g) (e : ∀ l, L l ↔ L' l) : Pas L' t f g :=
  ⟨h.1, fun j hj => (h.2 j hj).trans ⟨fun ⟨i, h1, h2, h3⟩ => ⟨i, h1, h2, (e _).1 h3⟩, fun ⟨i, h1, h2, h3⟩ => ⟨i, h1, h2, (e _).2 h3⟩⟩⟩
theorem getD_set (l : List Bool) (i j : Nat) (b : Bool) (h : i < l.length) : (l.set i b).getD j false = if j = i then b else l.getD j false := by
  simp only [List.getD_eq_getElem?_getD, List.getElem?_set]
  by_cases e : i = j
  · subst e; simp [h]
  · rw [if_neg e, if_neg (fun h => e h.symm)]
/-- Where a match may begin. -/
def BegAt (rt : Bool) (t : ByteArray) (i : Nat) : Prop := i = 0 ∨ (rt = false ∧ 0 < i ∧ ∃ h : i - 1 < t.size, t[i - 1] = 47)
def Reach (rt : Bool) (ps : List Part) (t : ByteArray) (j : Nat) : Prop := ∃ i, i ≤ j ∧ BegAt rt t i ∧ LP ps (seg t i j)
def FitS (rt : Bool) (ps : List Part) (t : ByteArray) (itself above : Bool) : Prop :=
  0 < t.size ∧ ((itself = true ∧ Reach rt ps t t.size) ∨ (above = true ∧ ∃ j, 1 ≤ j ∧ ∃ h : j < t.size, t[j] = 47 ∧ Reach rt ps t j))
end Go.Proofs.YtndfhicdabdafaaDoor
