/- More rules: scopes without jumps, ranging over a string, UTF-8. -/
import Derived.Test.YtndfhicdabdafaaDoorM
import Derived.Laws.RangeAny
import Derived.Scope
namespace Go.Proofs.YtndfhicdabdafaaDoor
open Go Go.RowKit

section
variable {P : Program} {n : Nat} {ds : List Deferred} {c : Code} {Q : Exit → Env → World → Prop} {e : Env} {w w' : World}
def NoG (Q : Exit → Env → World → Prop) : Exit → Env → World → Prop
  | .goto _ => fun _ _ => False
  | .normal => Q .normal
  | .exit i => Q (.exit i)
  | .ret => Q .ret
  | .panic c => Q (.panic c)
  | .outgrown => Q .outgrown
theorem W_scope (h : W P n ds c (NoG Q) e w) : W P n ds (.scope c) Q e w := by
  unfold W at *
  intro a ha
  refine wp_scope_straight (wp_mono (h a ha) ?_)
  intro ex a' w' ⟨e', h1, h2⟩
  cases ex with
  | goto i => exact h2.elim
  | normal => exact ⟨e', h1, h2⟩
  | exit i => exact ⟨e', h1, h2⟩
  | ret => exact ⟨e', h1, h2⟩
  | panic c => exact ⟨e', h1, h2⟩
  | outgrown => exact ⟨e', h1, h2⟩
theorem Blo_n {i : Nat} (h : Q .normal e w) : Blo i Q .normal e w := h
theorem W_label {l : Nat} (h : Q .normal e w) : W P n ds (.label l) Q e w := by
  unfold W
  exact fun a ha => wp_label ⟨e, ha, h⟩
end

/-- At block r an iterator over s that stands at p. -/
def Itr (w : World) (r : Nat) (s : ByteArray) (p : Nat) : Prop := w.heap[r]? = some (.stringIter s p)
theorem Itr.lt {w : World} {r p : Nat} {s : ByteArray} (h : Itr w r s p) : r < w.heap.size := by
  rcases Nat.lt_or_ge r w.heap.size with h1 | h1
  · exact h1
  · unfold Itr at h; rw [Array.getElem?_eq_none h1] at h; cases h
theorem Itr.fro {S : Nat → Prop} {w w' : World} {r p : Nat} {s : ByteArray} (h : Itr w r s p) (hx : Fro S w w') (hs : ¬ S r) : Itr w' r s p := by
  have := h.lt
  unfold Itr at *
  rw [hx.block r this hs, h]
theorem Itr.ext {w w' : World} {r p : Nat} {s : ByteArray} (h : Itr w r s p) (hx : Ext w w') : Itr w' r s p := h.fro hx id

section
variable {P : Program} {e : Env} {w w' : World} {dst : Option Tmp} {ty t t' : TypeId} {pos : String} {aft : Array Edge} {g : Option (Nat × Bool)} {x y : Operand} {s : ByteArray}
theorem ef_range (hu : P.underlying t = some .string) (hx : ev e x = .string s) :
    ∃ v w', St P ⟨dst, .range t x, ty, pos, aft, g⟩ e w v w' ∧ ∃ r, v = .pointer (some ⟨r, 0, none⟩) ∧ w.heap.size ≤ r ∧ Itr w' r s 0 ∧ Ext w w' := by
  refine ⟨.pointer (some ⟨w.heap.size, 0, none⟩), w.iter s 0, ?_, w.heap.size, rfl, Nat.le_refl _, ?_, ?_⟩
  · unfold St
    refine run_v (s := Instr.range t (ev e x)) ?_
    rw [hx]
    exact run_range_string w t s hu
  · unfold Itr
    exact World.iter_heap w s 0
  · refine ⟨rfl, rfl, rfl, by simp [World.iter], fun k hk _ => ?_⟩
    simp only [World.iter]
    exact Array.getElem?_push_lt hk ▸ (by rw [Array.getElem?_eq_getElem hk])
theorem run_next_in {r p : Nat} (h : Itr w r s p) (hp : p < s.size) (ty : TypeId) :
    (Instr.next (.pointer (some ⟨r, 0, none⟩)) true ty).run P w = .ok (.tuple #[.bool true, .int .i64 p, .int .i32 (Utf8.decode s p).1]) { w with heap := w.heap.set! r (.stringIter s (p + (Utf8.decode s p).2)) } := by
  unfold Itr at h
  simp only [Instr.next, getObj, setObj, Sem.run_bind, Sem.run, h, Result.andThen, hp, if_true]
  simp [goInt]
theorem ef_next {r p : Nat} (hx : ev e x = .pointer (some ⟨r, 0, none⟩)) (h : Itr w r s p) (hp : p < s.size) :
    ∃ v w', St P ⟨dst, .next x true, ty, pos, aft, g⟩ e w v w' ∧ v = .tuple #[.bool true, .int .i64 p, .int .i32 (Utf8.decode s p).1] ∧ Itr w' r s (p + (Utf8.decode s p).2) ∧ Fro (· = r) w w' := by
  refine ⟨_, { w with heap := w.heap.set! r (.stringIter s (p + (Utf8.decode s p).2)) }, ?_, rfl, ?_, ?_⟩
  · unfold St
    refine run_v (s := Instr.next (ev e x) true ty) ?_
    rw [hx]
    exact run_next_in h hp ty
  · have := h.lt
    unfold Itr
    simp [Array.setIfInBounds, this]
  · refine ⟨rfl, rfl, rfl, by simp, fun k hk hs => ?_⟩
    have : ¬ r = k := fun e => hs e.symm
    simp [Array.set!, Array.getElem?_setIfInBounds, this]
theorem st_next_end {r p : Nat} (hx : ev e x = .pointer (some ⟨r, 0, none⟩)) (h : Itr w r s p) (hp : ¬ p < s.size) : St P ⟨dst, .next x true, ty, pos, aft, g⟩ e w (.tuple #[.bool false]) w := by
  unfold St
  refine run_v (s := Instr.next (ev e x) true ty) ?_
  rw [hx]
  unfold Itr at h
  simp [Instr.next, getObj, Sem.run, h, hp, Result.andThen]
theorem run_convert_rune {r : Int} {d : TypeDesc} {k : IntKind} (hs : P.underlying t = some d) (hd : P.underlying t' = some .string) : (convert t t' (.int k r)).run P w = .ok (.string (Utf8.encode r)) w := by
  unfold convert
  simp only [Sem.run_bind, run_underlying' hs, Result.andThen, run_underlying' hd]
  cases d <;> rfl
end

theorem get_at_k (s : ByteArray) (pos : Nat) (h : pos < s.size) : s.get! pos = s[pos]'h := by
  simp [ByteArray.get!, getElem!_pos, h]
  rfl
theorem decode_span (s : ByteArray) (pos : Nat) (h : pos < s.size) (ha : 128 ≤ (s[pos]'h).toNat) :
    pos + (Utf8.decode s pos).2 ≤ s.size ∧ ∀ j (hj : j < s.size), pos ≤ j → j < pos + (Utf8.decode s pos).2 → 128 ≤ (s[j]'hj).toNat := by
  have hn : ¬ (s[pos]'h).toNat < 128 := by omega
  have e1 : ∀ k, pos + k < s.size → (s.get! (pos + k)).toNat / 64 = 2 → ∀ j (hj : j < s.size), j = pos + k → 128 ≤ (s[j]'hj).toNat := by
    intro k hk h2 j hj e
    subst e
    rw [get_at_k s _ hk] at h2
    omega
  simp only [Utf8.decode, get_at s pos h, hn, if_false]
  repeat' split
  all_goals (refine ⟨?_, ?_⟩)
  all_goals (try (simp only [Bool.and_eq_true, decide_eq_true_eq, beq_iff_eq] at *))
  all_goals (try omega)
  all_goals
    intro j hj h1 h2
    by_cases e0 : j = pos
    · subst e0; exact ha
    · first
      | omega
      | (by_cases e2 : j = pos + 1
         · exact e1 1 (by omega) (by omega) j hj e2
         · first
           | omega
           | (by_cases e3 : j = pos + 2
              · exact e1 2 (by omega) (by omega) j hj e3
              · first
                | omega
                | exact e1 3 (by omega) (by omega) j hj (by omega)))
end Go.Proofs.YtndfhicdabdafaaDoor
