/- Comparisons of function values and of slices with nil. -/
import Derived.Test.YtndfhicdabdafaaDoorKb
namespace Go.Proofs.YtndfhicdabdafaaDoor
open Go Go.RowKit
section
variable {P : Program} {e : Env} {w : World} {dst : Option Tmp} {ty t t' : TypeId} {pos : String} {aft : Array Edge} {g : Option (Nat × Bool)} {x y : Operand}
def isFn : Value → Bool
  | .nilFunc | .func _ _ _ => true
  | _ => false
def isNilFn : Value → Bool
  | .nilFunc => true
  | _ => false
theorem st_eqlfn {d : TypeDesc} {v : Value} (hu : P.underlying t = some d) (hd : ∃ a b c, d = .func a b c) (hx : ev e x = v) (hv : isFn v = true) (hy : ev e y = .nilFunc) :
    St P ⟨dst, .binOp .eql t x y t', ty, pos, aft, g⟩ e w (.bool (isNilFn v)) w := by
  obtain ⟨a, b, c, rfl⟩ := hd
  have h : ∀ d : Nat, (Op.equalIn (d + 1) t v .nilFunc).run P w = .ok (isNilFn v) w := fun d => by
    unfold Op.equalIn
    rw [Sem.run_bind, run_underlying' hu]
    cases v <;> first | rfl | cases hv
  cases v <;> first
    | (cases hv; done)
    | (refine st_bin hx hy (by rfl) ?_
       show Sem.run P (do pure (Value.bool (← Op.equal t _ .nilFunc))) w = _
       rw [Sem.run_bind, show (Op.equal t _ .nilFunc).run P w = .ok _ w from h 9999]
       rfl)
theorem st_eqlsl {T : TypeId} {a : Option Addr} {l c : Nat} (hu : P.underlying t = some (.slice T)) (hx : ev e x = .slice a l c) (hy : ev e y = .slice none 0 0) :
    St P ⟨dst, .binOp .eql t x y t', ty, pos, aft, g⟩ e w (.bool a.isNone) w := by
  have h : ∀ d : Nat, (Op.equalIn (d + 1) t (.slice a l c) (.slice none 0 0)).run P w = .ok a.isNone w := fun d => by
    unfold Op.equalIn
    rw [Sem.run_bind, run_underlying' hu]
    cases a <;> rfl
  have hg : (eqGuard .eql t x y (.slice a l c) (.slice none 0 0)).run P w = .ok () w := by
    cases a <;> rfl
  refine st_bin hx hy hg ?_
  show Sem.run P (do pure (Value.bool (← Op.equal t (.slice a l c) (.slice none 0 0)))) w = _
  rw [Sem.run_bind, show (Op.equal t (.slice a l c) (.slice none 0 0)).run P w = .ok a.isNone w from h 9999]
  rfl
end
end Go.Proofs.YtndfhicdabdafaaDoor
