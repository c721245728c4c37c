/- States behind a directory's path, and the answer of Below, in plain words of Lean. -/
import Derived.Test.YtndfhicdabdafaaDoorR
namespace Go.Proofs.YtndfhicdabdafaaDoor
open Go Go.RowKit

theorem Run.one_inv {N : NetL} {s q : Nat} {z : List UInt8} (r : Run N s z q) : ∀ c, z = [c] → ∃ s', Run N s [] s' ∧ ∃ a ∈ arws N s', ∃ f, a.tk = some f ∧ f c = true ∧ Run N a.to [] q := by
  induction r with
  | nil => intro c h; cases h
  | free r ha hk ih =>
    intro c h
    obtain ⟨s', h1, a, h2, f, h3, h4, h5⟩ := ih c h
    exact ⟨s', h1, a, h2, f, h3, h4, .free h5 ha hk⟩
  | take r ha hk hf ih =>
    intro c h
    rename_i l q0 a f c0
    have h1 : l = [] ∧ c0 = c := by
      rcases List.eq_nil_or_concat l with rfl | ⟨l', x, rfl⟩
      · simpa using h
      · have := congrArg List.length h
        simp at this
    obtain ⟨h1, rfl⟩ := h1
    subst h1
    exact ⟨q0, r, a, ha, f, hk, hf, .nil⟩
theorem Run.last {N : NetL} {s q : Nat} {v : List UInt8} {c : UInt8} : Run N s (v ++ [c]) q ↔ ∃ s', Run N s v s' ∧ ∃ a ∈ arws N s', ∃ f, a.tk = some f ∧ f c = true ∧ Run N a.to [] q := by
  constructor
  · intro r
    obtain ⟨p, h1, h2⟩ := r.split v [c] rfl
    obtain ⟨s', h3, h4⟩ := h2.one_inv c rfl
    exact ⟨s', by simpa using h1.trans h3, h4⟩
  · rintro ⟨s', h1, a, h2, f, h3, h4, h5⟩
    have := (Run.take h1 h2 h3 h4).trans h5
    simpa using this
/-- The states that D leads to. -/
def Sts (N : NetL) (rt : Bool) (s0 : Nat) (D : List UInt8) (q : Nat) : Prop := RR rt (fun v => Run N s0 v q) D
theorem Sts.nil {N : NetL} {rt : Bool} {s0 q : Nat} : Sts N rt s0 [] q ↔ Run N s0 [] q := by
  unfold Sts RR
  constructor
  · rintro ⟨u, v, e, _, h⟩
    have := List.append_eq_nil_iff.1 e.symm
    rw [this.2] at h
    exact h
  · intro h; exact ⟨[], [], rfl, .inl rfl, h⟩
/-- What a step from these states over c yields. -/
def Stp (N : NetL) (R : Nat → Prop) (c : UInt8) (q : Nat) : Prop := ∃ s, R s ∧ ∃ a ∈ arws N s, ∃ f, a.tk = some f ∧ f c = true ∧ Run N a.to [] q
theorem Sts.step {N : NetL} {rt : Bool} {s0 q : Nat} {D : List UInt8} {c : UInt8} : Sts N rt s0 (D ++ [c]) q ↔ Stp N (Sts N rt s0 D) c q ∨ (rt = false ∧ c = 47 ∧ Run N s0 [] q) := by
  unfold Sts RR Stp
  constructor
  · rintro ⟨u, v, e, hu, h⟩
    rcases List.eq_nil_or_concat v with rfl | ⟨v', x, rfl⟩
    · rw [List.append_nil] at e
      subst e
      rcases hu with hu | ⟨hr, u', hu⟩
      · simp at hu
      · have := (List.append_inj' hu rfl).2
        injection this with this
        exact .inr ⟨hr, this, h⟩
    · rw [List.concat_eq_append] at e h
      rw [← List.append_assoc] at e
      obtain ⟨e1, e2⟩ := List.append_inj' e rfl
      injection e2 with e2
      subst e2
      obtain ⟨s', h1, h2⟩ := Run.last.1 h
      exact .inl ⟨s', ⟨u, v', e1, hu, h1⟩, h2⟩
  · rintro (⟨s, ⟨u, v, rfl, hu, h1⟩, h2⟩ | ⟨hr, rfl, h⟩)
    · exact ⟨u, v ++ [c], by simp, hu, Run.last.2 ⟨s, h1, h2⟩⟩
    · exact ⟨D ++ [47], [], by simp, .inr ⟨hr, D, rfl⟩, h⟩
theorem Stp.congr {N : NetL} {R R' : Nat → Prop} (h : ∀ q, R q ↔ R' q) {c : UInt8} {q : Nat} : Stp N R c q ↔ Stp N R' c q := by
  have : R = R' := funext fun q => propext (h q)
  rw [this]
/-- Whether there is a path on to the end. -/
theorem vis_end {N : NetL} {rt : Bool} {s0 en : Nat} {D : List UInt8} {ks : List Nat} {L : List UInt8 → Prop} (hk : ∀ q, q ∈ ks ↔ Sts N rt s0 D q) (hL : ∀ l, Run N s0 l en ↔ L l) : Vis N ks (en, 3) ↔ ∃ z, Tail z ∧ RB rt L D z := by
  constructor
  · rintro ⟨s, hs, z, h1, h2, h3⟩
    obtain ⟨u, v, e, hu, h4⟩ := (hk s).1 hs
    exact ⟨z, ⟨h2, h3⟩, u, v, e, hu, (hL _).1 (h4.trans h1)⟩
  · rintro ⟨z, ⟨h2, h3⟩, u, v, e, hu, h⟩
    obtain ⟨s, h4, h5⟩ := ((hL _).2 h).split v z rfl
    exact ⟨s, (hk s).2 ⟨u, v, e, hu, h4⟩, z, h5, h2, h3⟩
/-- The net of one state, and of no arrow. -/
theorem run_start {l : List UInt8} {q : Nat} (r : Run [[]] 0 l q) : l = [] ∧ q = 0 := by
  induction r with
  | nil => exact ⟨rfl, rfl⟩
  | free r ha _ ih => rw [ih.2] at ha; cases ha
  | take r ha _ _ ih => rw [ih.2] at ha; cases ha
theorem Bui.start {L : List UInt8 → Prop} {N' : NetL} {to : Nat} (h : Bui 0 L [[]] 0 N' to) (l : List UInt8) : Run N' 0 l to ↔ L l := by
  rw [h.lang]
  constructor
  · rintro ⟨a, b, rfl, r, hb⟩
    rw [(run_start r).1]
    exact hb
  · intro h
    exact ⟨[], l, rfl, .nil, h⟩
end Go.Proofs.YtndfhicdabdafaaDoor
