/- Lists of parts, apart from one block. -/
import Derived.Test.YtndfhicdabdafaaDoorW
namespace Go.Proofs.YtndfhicdabdafaaDoor
open Go Go.RowKit

def PX (b n0 : Nat) (w : World) (v : Value) (ps : List Part) : Prop :=
  ∃ css g, Own w 33 5 v ps.length css.flatten g ∧ n0 ≤ g ∧ g ≠ b ∧ PartsAll (fun k => n0 ≤ k ∧ k < w.heap.size ∧ k ≠ g ∧ k ≠ b) w ps css
theorem POwn.px_after {n0 b : Nat} {w : World} {v : Value} {ps : List Part} (h : POwn n0 w v ps) (hn : n0 ≤ w.heap.size) (hb : w.heap.size ≤ b) : PX b n0 w v ps := by
  obtain ⟨css, g, h1, h2, h3⟩ := h
  rcases h1 with ⟨h4, ⟨h5, h6⟩ | ⟨cap, junk, h5, h6, h7⟩⟩
  · have h8 : ps = [] := List.length_eq_zero_iff.1 h6
    subst h8
    rw [PartsAll] at h3
    subst h3
    exact ⟨[], b + 1, ⟨rfl, .inl ⟨h5, rfl⟩⟩, by omega, by omega, by rw [PartsAll]⟩
  · have := h6.lt
    exact ⟨css, g, ⟨h4, .inr ⟨cap, junk, h5, h6, h7⟩⟩, h2, by omega, PartsAll.mono (fun k hk => ⟨hk.1, hk.2.1, hk.2.2, by have := hk.2.1; omega⟩) _ _ h3⟩
theorem POwn.px_before {n0 n1 b : Nat} {w : World} {v : Value} {ps : List Part} (h : POwn n1 w v ps) (hn : n0 ≤ n1) (hb : b < n1) : PX b n0 w v ps := by
  obtain ⟨css, g, h1, h2, h3⟩ := h
  exact ⟨css, g, h1, by omega, by omega, PartsAll.mono (fun k hk => ⟨by have := hk.1; omega, hk.2.1, hk.2.2, by have := hk.1; omega⟩) _ _ h3⟩
theorem PX.ext {b n0 : Nat} {w w' : World} {v : Value} {ps : List Part} (h : PX b n0 w v ps) (hx : Ext w w') : PX b n0 w' v ps := by
  obtain ⟨css, g, h1, h2, h3, h4⟩ := h
  have := hx.size
  exact ⟨css, g, h1.ext hx, h2, h3, PartsAll.mono (fun k hk => ⟨hk.1, by have := hk.2.1; omega, hk.2.2⟩) _ _ (PartsAll.fro hx (fun _ _ f => f) _ _ h4)⟩
theorem PX.fro {b n0 : Nat} {w w' : World} {v : Value} {ps : List Part} (h : PX b n0 w v ps) (hx : Fro (· = b) w w') : PX b n0 w' v ps := by
  obtain ⟨css, g, h1, h2, h3, h4⟩ := h
  have := hx.size
  exact ⟨css, g, h1.fro hx h3, h2, h3, PartsAll.mono (fun k hk => ⟨hk.1, by have := hk.2.1; omega, hk.2.2⟩) _ _ (PartsAll.fro hx (fun k hk e => hk.2.2.2 e) _ _ h4)⟩
theorem PX.len {b n0 : Nat} {w : World} {v : Value} {ps : List Part} (h : PX b n0 w v ps) : ∃ a cap, v = .slice a ps.length cap := by
  obtain ⟨css, g, h1, _⟩ := h
  obtain ⟨a, cap, rfl, _⟩ := h1.form
  exact ⟨a, cap, rfl⟩
theorem PX.parts {b n0 : Nat} {w : World} {v : Value} {ps : List Part} (h : PX b n0 w v ps) (hb : ps.length ≤ 1099511627776) : PartsAt (fun k => n0 ≤ k ∧ k < w.heap.size ∧ k ≠ b) w v ps := by
  obtain ⟨css, g, h1, h2, h3, h4⟩ := h
  obtain ⟨h5, h6, _⟩ := h4.cells
  have h7 := PartsAll.mono (D' := fun k => n0 ≤ k ∧ k < w.heap.size ∧ k ≠ b) (fun k hk => ⟨hk.1, hk.2.1, hk.2.2.2⟩) _ _ h4
  rcases h1 with ⟨h8, ⟨h9, h10⟩ | ⟨cap, junk, h9, h10, h11⟩⟩
  · have h11 : ps = [] := List.length_eq_zero_iff.1 h10
    subst h11
    rw [PartsAll] at h4
    subst h4 h9
    exact ⟨[], ⟨none, 0, rfl, by simp, .inl rfl⟩, by rw [PartsAll]⟩
  · exact ⟨css, own_arr ⟨h8, .inr ⟨cap, junk, h9, h10, h11⟩⟩ h6 h5 ⟨h2, h10.lt, h3⟩ hb, h7⟩
theorem PX.prep {b n0 : Nat} {w : World} {v : Value} {ps : List Part} (h : PX b n0 w v ps) (hn : n0 ≤ w.heap.size) (hb : b < w.heap.size) :
    ∃ css g, Own w 33 5 v ps.length css.flatten g ∧ n0 ≤ g ∧ g ≠ b ∧ PartsAll (fun k => n0 ≤ k ∧ k < w.heap.size ∧ k ≠ g ∧ k ≠ b) w ps css ∧ g ≤ w.heap.size := by
  obtain ⟨css, g, h1, h2, h3, h4⟩ := h
  rcases h1 with ⟨h8, ⟨h9, h10⟩ | ⟨cap, junk, h9, h10, h11⟩⟩
  · have h11 : ps = [] := List.length_eq_zero_iff.1 h10
    subst h11
    rw [PartsAll] at h4
    subst h4
    exact ⟨[], w.heap.size, ⟨rfl, .inl ⟨h9, rfl⟩⟩, hn, by omega, by rw [PartsAll], Nat.le_refl _⟩
  · exact ⟨css, g, ⟨h8, .inr ⟨cap, junk, h9, h10, h11⟩⟩, h2, h3, h4, Nat.le_of_lt h10.lt⟩
theorem PX.app {b n0 g g' m : Nat} {w w' : World} {v' : Value} {ps qs : List Part} {css ds : List (List Value)} (hb : b < w.heap.size) (hm : m = qs.length) (hg0 : n0 ≤ g) (hgb : g ≠ b) (hn : n0 ≤ w.heap.size)
    (h3 : PartsAll (fun k => n0 ≤ k ∧ k < w.heap.size ∧ k ≠ g ∧ k ≠ b) w ps css) (h4 : PartsAll (fun k => n0 ≤ k ∧ k < w.heap.size ∧ k ≠ g ∧ k ≠ b) w qs ds)
    (ho : Own w' 33 5 v' (ps.length + m) (css.flatten ++ ds.flatten) g') (hf : Fro (· = g) w w') (hg : g' = g ∨ w.heap.size ≤ g') : PX b n0 w' v' (ps ++ qs) := by
  have hsz := hf.size
  have hD : ∀ k, (n0 ≤ k ∧ k < w.heap.size ∧ k ≠ g ∧ k ≠ b) → (n0 ≤ k ∧ k < w'.heap.size ∧ k ≠ g' ∧ k ≠ b) := fun k hk => ⟨hk.1, by have := hk.2.1; omega, by have := hk.2.2.1; have := hk.2.1; rcases hg with e | e <;> omega, hk.2.2.2⟩
  refine ⟨css ++ ds, g', by rw [List.flatten_append, List.length_append, ← hm]; exact ho, by rcases hg with e | e <;> omega, by rcases hg with e | e <;> omega, PartsAll.append ?_ ?_⟩
  · exact PartsAll.mono hD _ _ (PartsAll.fro hf (fun k hk e => hk.2.2.1 e) _ _ h3)
  · exact PartsAll.mono hD _ _ (PartsAll.fro hf (fun k hk e => hk.2.2.1 e) _ _ h4)
theorem PX.mono {b n0 n1 : Nat} {w : World} {v : Value} {ps : List Part} (h : PX b n1 w v ps) (hn : n0 ≤ n1) : PX b n0 w v ps := by
  obtain ⟨css, g, h1, h2, h3, h4⟩ := h
  exact ⟨css, g, h1, by omega, h3, PartsAll.mono (fun k hk => ⟨by have := hk.1; omega, hk.2⟩) _ _ h4⟩
def deepC : List Value := [.int .i64 4, .string ⟨#[]⟩, .bool false, .slice none 0 0, .slice none 0 0]
def slashC : List Value := [.int .i64 1, .string ⟨#[47]⟩, .bool false, .slice none 0 0, .slice none 0 0]
theorem nil_ranges {D : Nat → Prop} {w : World} : RangesAt D w (.slice none 0 0) [] := ⟨none, 0, rfl, Nat.zero_le _, .inl rfl⟩
theorem nil_ways {D : Nat → Prop} {w : World} : WaysAt D w (.slice none 0 0) [] := ⟨[], ⟨none, 0, rfl, Nat.zero_le _, .inl rfl⟩, by rw [WaysAll]⟩
theorem lit_deep {D : Nat → Prop} {w : World} : PartAt D w deepP deepC := PartAt_iff.2 ⟨_, _, rfl, nil_ranges, nil_ways⟩
theorem lit_slash {D : Nat → Prop} {w : World} : PartAt D w slashP slashC := PartAt_iff.2 ⟨_, _, rfl, nil_ranges, nil_ways⟩
theorem lit_two {D : Nat → Prop} {w : World} : PartsAll D w [slashP, deepP] [slashC, deepC] := (PartsAll.one lit_slash).append (PartsAll.one lit_deep)
theorem ways_lit {D : Nat → Prop} {w : World} {gp gw : Nat} (hp : Blk w gp 33 (deepC ++ slashC)) (hw : Blk w gw 22 [.slice none 0 0, .slice (some ⟨gp, 0, none⟩) 2 2]) (h1 : D gp) (h2 : D gw) :
    WaysAt D w (.slice (some ⟨gw, 0, none⟩) 2 2) [[], [deepP, slashP]] := by
  refine ⟨[.slice none 0 0, .slice (some ⟨gp, 0, none⟩) 2 2], ⟨some ⟨gw, 0, none⟩, 2, rfl, by simp, .inr ⟨gw, 0, h2, rfl, fun i cs hi => ?_⟩⟩, ?_⟩
  · rcases i with _ | _ | i
    · injection hi with hi; subst hi
      exact (hw.cells).part 0 (fun j v hj => by rcases j with _ | j; exact hj; cases hj)
    · injection hi with hi; subst hi
      exact (hw.cells).part 1 (fun j v hj => by rcases j with _ | j; exact hj; cases hj)
    · cases hi
  · rw [WaysAll]
    refine ⟨_, _, [], rfl, ⟨none, 0, rfl, Nat.zero_le _, .inl rfl⟩, by rw [PartsAll], ?_⟩
    rw [WaysAll]
    refine ⟨_, [], [deepC, slashC], rfl, ⟨some ⟨gp, 0, none⟩, 2, rfl, by simp, .inr ⟨gp, 0, h1, rfl, fun i cs hi => ?_⟩⟩, (PartsAll.one lit_deep).append (PartsAll.one lit_slash), by rw [WaysAll]⟩
    rcases i with _ | _ | i
    · injection hi with hi; subst hi
      exact (hp.cells).part 0 (fun j v hj => by rw [Nat.zero_add, List.getElem?_append_left (List.getElem?_eq_some_iff.1 hj).1]; exact hj)
    · injection hi with hi; subst hi
      exact (hp.cells).part 5 (fun j v hj => by rw [List.getElem?_append_right (by simp [deepC])]; simpa [deepC] using hj)
    · cases hi
end Go.Proofs.YtndfhicdabdafaaDoor
