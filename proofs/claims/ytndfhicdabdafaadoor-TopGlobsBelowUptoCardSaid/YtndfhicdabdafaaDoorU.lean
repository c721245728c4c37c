/- A net that is read while sets are made. -/
import Derived.Test.YtndfhicdabdafaaDoorO
import Derived.Test.YtndfhicdabdafaaDoorP
import Derived.Test.YtndfhicdabdafaaDoorQ
namespace Go.Proofs.YtndfhicdabdafaaDoor
open Go Go.RowKit

theorem offM {X : TypeId → Prop} {α : Type} {mk : α → Value} {w : World} {m n lim : Nat} {ks : List α} (hs : SetAt w m mk ks) (hn : n ≤ m) : ∀ k, k = m → OffX X n lim w k := by
  rintro k rfl
  refine ⟨hn, fun cs T fz h => ?_⟩
  obtain ⟨es, clock, h1, _⟩ := hs
  rw [h1] at h
  cases h
theorem Net.map {w w' : World} {n base nb m : Nat} {N : NetL} {ks : List Nat} (h : Net w n base nb N) (hs : SetAt w m mkI ks) (hn : n ≤ m) (hx : Fro (· = m) w w') : Net w' n base nb N := by
  obtain ⟨gs, h⟩ := h
  exact (h.off hx (offM hs hn)).net hx.size
theorem Net.lt {w : World} {n base nb : Nat} {N : NetL} (h : Net w n base nb N) : nb < w.heap.size := by
  obtain ⟨_, _, _, _, _, h, _⟩ := h
  exact h.lt
/-- What lies at a state. -/
theorem Net.look {w : World} {n base nb q : Nat} {N : NetL} (h : Net w n base nb N) (hq : q < N.length) :
    ∃ gsb cap a c, w.cell? ⟨nb, 0, none⟩ = some (.slice (some ⟨gsb, 0, none⟩) N.length cap) ∧ w.cell? ⟨gsb, 0 + q * 1, none⟩ = some (.slice a (arws N q).length c) ∧
      ∀ j (hj : j < (arws N q).length), ∃ g cs, a = some ⟨g, 0, none⟩ ∧ Cells w g (0 + j * 3) cs ∧ ArwAt w n w.heap.size (arws N q)[j] cs := by
  obtain ⟨gs, h0, sv, svs, gsb, h1, h2, h3, h4, _⟩ := h
  have har : N[q]? = some (arws N q) := by
    unfold arws
    rw [List.getD_eq_getElem?_getD, List.getElem?_eq_getElem hq]
    rfl
  obtain ⟨v, hv, css, h5, h6, _, _⟩ := h4 q _ har
  obtain ⟨a0, cap, rfl, hp0⟩ := h2.form
  obtain ⟨a, c, rfl, hp⟩ := h6.form
  obtain ⟨ha0, _, hc0⟩ := h2.cells (by omega)
  subst ha0
  refine ⟨gsb, cap, a, c, h1.cell 0 rfl, ?_, fun j hj => ?_⟩
  · have h7 := hc0 q _ hv
    rw [show 0 + q * 1 = 0 + q by omega]
    exact h7
  · obtain ⟨cs, h7, h8⟩ := h5.2 j _ (List.getElem?_eq_getElem hj)
    obtain ⟨ha, _, hc⟩ := h6.cells (by omega)
    have h3 : ∀ x ∈ css, x.length = 3 := by
      intro x hx
      obtain ⟨i, hi⟩ := List.getElem?_of_mem hx
      have hil : i < (arws N q).length := by
        have := (List.getElem?_eq_some_iff.1 hi).1
        rw [← h5.1]; exact this
      obtain ⟨cs', h9, fv, h10, _⟩ := h5.2 i _ (List.getElem?_eq_getElem hil)
      rw [hi] at h9
      injection h9 with h9
      rw [h9, h10]
      rfl
    refine ⟨gs q, cs, ha, ?_, h8⟩
    intro i v hv
    have key : ∀ (css : List (List Value)) (j : Nat) (cs : List Value), (∀ x ∈ css, x.length = 3) → css[j]? = some cs → ∀ i v, cs[i]? = some v → css.flatten[j * 3 + i]? = some v := by
      intro css
      induction css with
      | nil => intro j cs _ h; simp at h
      | cons x css ih =>
        intro j cs hall hj i v hv
        have hx := hall x List.mem_cons_self
        rw [List.flatten_cons]
        cases j with
        | zero =>
          simp at hj
          subst hj
          rw [Nat.zero_mul, Nat.zero_add, List.getElem?_append_left (List.getElem?_eq_some_iff.1 hv).1]
          exact hv
        | succ j =>
          rw [List.getElem?_append_right (by omega), hx, show (j + 1) * 3 + i - 3 = j * 3 + i by omega]
          exact ih j cs (fun y hy => hall y (List.mem_cons_of_mem _ hy)) (by simpa using hj) i v hv
    have h9 := hc _ _ (key css j cs h3 h7 i v hv)
    rw [show 0 + (j * 3 + i) = 0 + j * 3 + i by omega] at h9
    exact h9
theorem Own.cut {w : World} {T sz n g cap k : Nat} {xs : List Value} (h : Own w T sz (.slice (some ⟨g, 0, none⟩) n cap) n xs g) (hk : k ≤ n) : k ≤ cap ∧ Own w T sz (.slice (some ⟨g, 0, none⟩) k cap) k (xs.take (k * sz)) g := by
  obtain ⟨h1, h2⟩ := h
  rcases h2 with ⟨h2, _⟩ | ⟨cap', junk, h2, h3, h4, h5⟩
  · cases h2
  · injection h2 with _ _ h2
    subst h2
    have hle : k * sz ≤ n * sz := Nat.mul_le_mul_right _ hk
    refine ⟨by omega, by rw [List.length_take]; omega, .inr ⟨cap, xs.drop (k * sz) ++ junk, rfl, ?_, ?_, by omega⟩⟩
    · rw [← List.append_assoc, List.take_append_drop]
      exact h3
    · rw [← List.append_assoc, List.take_append_drop]
      exact h4
theorem RngAt.sub {α : Type} {mk : α → Value} {w : World} {r m c : Nat} {ks done : List α} (h : RngAt w r m mk ks done c) {a : α} (ha : a ∈ done) : a ∈ ks := by
  obtain ⟨_, _, _, _, _, _, _, _, _, _, _, _, _, _, h⟩ := h
  exact h a ha
theorem one3 {a : Int} {b : Bool} {v : Value} (h : one v = true) : [Value.int .i64 a, .bool b, v].all one = true := by
  simp only [List.all_cons, List.all_nil, h]
  rfl
theorem range_mem {q n : Nat} (h : q < n) : q ∈ List.range n := List.mem_range.2 h
end Go.Proofs.YtndfhicdabdafaaDoor
