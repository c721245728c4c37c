/- Lists of parts that a function makes: their own rows of cells, and what these point at. -/
import Derived.Test.YtndfhicdabdafaaDoorU
import Derived.Test.YtndfhicdabdafaaDoorKc
import Derived.Test.YtndfhicdabdafaaDoorKt
import Derived.Test.YtndfhicdabdafaaDoorR
namespace Go.Proofs.YtndfhicdabdafaaDoor
open Go Go.RowKit

theorem flat_at {sz : Nat} : ∀ (css : List (List Value)) (j : Nat) (cs : List Value), (∀ x ∈ css, x.length = sz) → css[j]? = some cs → ∀ i v, cs[i]? = some v → css.flatten[j * sz + i]? = some v := by
  intro css
  induction css with
  | nil => intro j cs _ h; simp at h
  | cons x css ih =>
    intro j cs hall hj i v hv
    have hx := hall x List.mem_cons_self
    rw [List.flatten_cons]
    cases j with
    | zero =>
      simp at hj
      subst hj
      rw [Nat.zero_mul, Nat.zero_add, List.getElem?_append_left (List.getElem?_eq_some_iff.1 hv).1]
      exact hv
    | succ j =>
      have e : (j + 1) * sz + i = sz + (j * sz + i) := by rw [Nat.add_mul]; omega
      rw [e, List.getElem?_append_right (by omega), hx, Nat.add_sub_cancel_left]
      exact ih j cs (fun y hy => hall y (List.mem_cons_of_mem _ hy)) (by simpa using hj) i v hv
theorem flat_len {sz : Nat} : ∀ (css : List (List Value)), (∀ x ∈ css, x.length = sz) → css.flatten.length = css.length * sz
  | [], _ => by simp
  | x :: css, h => by rw [List.flatten_cons, List.length_append, h x List.mem_cons_self, flat_len css (fun y hy => h y (List.mem_cons_of_mem _ hy)), List.length_cons, Nat.add_mul]; omega
theorem own_arr {D : Nat → Prop} {w : World} {T sz n g : Nat} {v : Value} {css : List (List Value)} (h : Own w T sz v n css.flatten g) (hl : ∀ x ∈ css, x.length = sz) (hn : css.length = n) (hD : D g) (hb : n ≤ 1099511627776) : Arr D w sz v css := by
  obtain ⟨a, cap, rfl, hp⟩ := h.form
  refine ⟨a, cap, by rw [hn], by omega, ?_⟩
  rcases Nat.eq_zero_or_pos n with h0 | h0
  · exact .inl (List.length_eq_zero_iff.1 (by omega))
  · obtain ⟨ha, _, hc⟩ := h.cells h0
    refine .inr ⟨g, 0, hD, ha, fun i cs hi => ?_⟩
    intro j u hu
    have := hc _ _ (flat_at css i cs hl hi j u hu)
    rw [← Nat.add_assoc] at this
    exact this
theorem cells_flat {w : World} {b sz : Nat} : ∀ (css : List (List Value)) (o : Nat), (∀ x ∈ css, x.length = sz) → (∀ i cs, css[i]? = some cs → Cells w b (o + i * sz) cs) → Cells w b o css.flatten := by
  intro css
  induction css with
  | nil => intro o _ _ i v h; simp at h
  | cons c css ih =>
    intro o hl h i v hv
    have hc := hl c List.mem_cons_self
    rw [List.flatten_cons] at hv
    rcases Nat.lt_or_ge i c.length with hi | hi
    · rw [List.getElem?_append_left hi] at hv
      have := h 0 c rfl i v hv
      simpa using this
    · rw [List.getElem?_append_right hi] at hv
      have := ih (o + sz) (fun y hy => hl y (List.mem_cons_of_mem _ hy)) (fun i cs hi => by
        have := h (i + 1) cs (by simpa using hi)
        rw [show o + (i + 1) * sz = o + sz + i * sz by rw [Nat.add_mul]; omega] at this
        exact this) _ v hv
      rw [show o + sz + (i - c.length) = o + i by omega] at this
      exact this
theorem arr_src {P : Program} {D : Nat → Prop} {w : World} {sz : Nat} {v : Value} {css : List (List Value)} (h : Arr D w sz v css) (hl : ∀ x ∈ css, x.length = sz) : Src P w sz v css.length css.flatten := by
  obtain ⟨a, cp, rfl, _, h⟩ := h
  refine src_slice (flat_len css hl) ?_ (fun h0 => by rw [List.length_eq_zero_iff.1 h0]; rfl)
  rcases h with h | ⟨b, o, _, ha, hc⟩
  · subst h; exact .inl rfl
  · exact .inr ⟨b, o, ha, cells_flat css o hl hc⟩
theorem ranges_len (rs : List (Int × Int)) : ∀ x ∈ rs.map (fun p : Int × Int => [Value.int .i64 p.1, .int .i64 p.2]), x.length = 2 := by
  intro x hx
  obtain ⟨p, _, rfl⟩ := List.mem_map.1 hx
  rfl
theorem all_flat {l : List (List Value)} (h : ∀ x ∈ l, x.all one = true) : l.flatten.all one = true := by
  rw [List.all_eq_true]
  intro v hv
  obtain ⟨x, hx, hv⟩ := List.mem_flatten.1 hv
  exact List.all_eq_true.1 (h x hx) v hv
theorem ranges_one (rs : List (Int × Int)) : ∀ x ∈ rs.map (fun p : Int × Int => [Value.int .i64 p.1, .int .i64 p.2]), x.all one = true := by
  intro x hx
  obtain ⟨p, _, rfl⟩ := List.mem_map.1 hx
  rfl
theorem PartsAll.cells {D : Nat → Prop} {w : World} : ∀ {ps : List Part} {css : List (List Value)}, PartsAll D w ps css → css.length = ps.length ∧ (∀ x ∈ css, x.length = 5) ∧ ∀ x ∈ css, x.all one = true
  | [], css, h => by
    rw [PartsAll] at h
    subst h
    exact ⟨rfl, fun x hx => (by cases hx), fun x hx => (by cases hx)⟩
  | .mk _ _ _ _ _ :: ps, css, h => by
    rw [PartsAll] at h
    obtain ⟨c, r, rfl, h1, h2⟩ := h
    rw [PartAt] at h1
    obtain ⟨rv, wv, rfl, ⟨_, _, rfl, _⟩, vs, ⟨_, _, rfl, _⟩, _⟩ := h1
    obtain ⟨h3, h4, h5⟩ := PartsAll.cells h2
    refine ⟨by rw [List.length_cons, List.length_cons, h3], fun x hx => ?_, fun x hx => ?_⟩
    · rcases List.mem_cons.1 hx with rfl | hx
      · rfl
      · exact h4 x hx
    · rcases List.mem_cons.1 hx with rfl | hx
      · rfl
      · exact h5 x hx
theorem WaysAll.vals {D : Nat → Prop} {w : World} : ∀ {ws : List (List Part)} {vs : List Value}, WaysAll D w ws vs → vs.length = ws.length ∧ vs.all one = true
  | [], vs, h => by rw [WaysAll] at h; subst h; exact ⟨rfl, rfl⟩
  | x :: ws, vs, h => by
    rw [WaysAll] at h
    obtain ⟨v, r, css, rfl, ⟨_, _, rfl, _⟩, _, h2⟩ := h
    obtain ⟨h3, h4⟩ := WaysAll.vals h2
    exact ⟨by rw [List.length_cons, List.length_cons, h3], by rw [List.all_cons, h4]; rfl⟩
theorem PartsAll.append {D : Nat → Prop} {w : World} : ∀ {ps qs : List Part} {a b : List (List Value)}, PartsAll D w ps a → PartsAll D w qs b → PartsAll D w (ps ++ qs) (a ++ b)
  | [], qs, a, b, h, h' => by rw [PartsAll] at h; subst h; exact h'
  | p :: ps, qs, a, b, h, h' => by
    rw [PartsAll] at h
    obtain ⟨c, r, rfl, h1, h2⟩ := h
    rw [List.cons_append, List.cons_append, PartsAll]
    exact ⟨c, _, rfl, h1, PartsAll.append h2 h'⟩
theorem WaysAll.append {D : Nat → Prop} {w : World} : ∀ {ps qs : List (List Part)} {a b : List Value}, WaysAll D w ps a → WaysAll D w qs b → WaysAll D w (ps ++ qs) (a ++ b)
  | [], qs, a, b, h, h' => by rw [WaysAll] at h; subst h; exact h'
  | p :: ps, qs, a, b, h, h' => by
    rw [WaysAll] at h
    obtain ⟨v, r, css, rfl, h1, h2, h3⟩ := h
    rw [List.cons_append, List.cons_append, WaysAll]
    exact ⟨v, _, css, rfl, h1, h2, WaysAll.append h3 h'⟩
theorem PartsAll.one {D : Nat → Prop} {w : World} {p : Part} {c : List Value} (h : PartAt D w p c) : PartsAll D w [p] [c] := by
  rw [PartsAll]; exact ⟨c, [], rfl, h, by rw [PartsAll]⟩
theorem WaysAll.one {D : Nat → Prop} {w : World} {x : List Part} {v : Value} (h : PartsAt D w v x) : WaysAll D w [x] [v] := by
  obtain ⟨css, h1, h2⟩ := h
  rw [WaysAll]; exact ⟨v, [], css, rfl, h1, h2, by rw [WaysAll]⟩

/-- A list of parts in a row of its own; all else lies in blocks from n0 on, or in those of B. -/
def POwn (n0 : Nat) (w : World) (v : Value) (ps : List Part) : Prop :=
  ∃ css g, Own w 33 5 v ps.length css.flatten g ∧ n0 ≤ g ∧ PartsAll (fun k => n0 ≤ k ∧ k < w.heap.size ∧ k ≠ g) w ps css
theorem POwn.ext {n0 : Nat} {w w' : World} {v : Value} {ps : List Part} (h : POwn n0 w v ps) (hx : Ext w w') : POwn n0 w' v ps := by
  obtain ⟨css, g, h1, h2, h3⟩ := h
  have := hx.size
  exact ⟨css, g, h1.ext hx, h2, PartsAll.mono (fun k hk => ⟨hk.1, by omega, hk.2.2⟩) _ _ (PartsAll.fro hx (fun _ _ f => f) _ _ h3)⟩
theorem POwn.nil {n0 : Nat} {w : World} : POwn n0 w (.slice none 0 0) [] := ⟨[], n0, Own.nil _ _ _ _, Nat.le_refl _, by rw [PartsAll]⟩
theorem POwn.len {n0 : Nat} {w : World} {v : Value} {ps : List Part} (h : POwn n0 w v ps) : ∃ a cap, v = .slice a ps.length cap := by
  obtain ⟨css, g, h1, _⟩ := h
  obtain ⟨a, cap, rfl, _⟩ := h1.form
  exact ⟨a, cap, rfl⟩
/-- Ready for an append. -/
theorem POwn.prep {n0 : Nat} {w : World} {v : Value} {ps : List Part} (h : POwn n0 w v ps) (hn : n0 ≤ w.heap.size) :
    ∃ css g, Own w 33 5 v ps.length css.flatten g ∧ n0 ≤ g ∧ PartsAll (fun k => n0 ≤ k ∧ k < w.heap.size ∧ k ≠ g) w ps css ∧ ((ps = [] ∧ g = w.heap.size) ∨ (∃ cap, v = .slice (some ⟨g, 0, none⟩) ps.length cap) ∧ g < w.heap.size) := by
  obtain ⟨css, g, h1, h2, h3⟩ := h
  rcases h1 with ⟨h4, h5 | ⟨cap, junk, h5, h6, h7⟩⟩
  · have h8 : ps = [] := List.length_eq_zero_iff.1 h5.2
    subst h8
    rw [PartsAll] at h3
    subst h3
    exact ⟨[], w.heap.size, ⟨rfl, .inl h5⟩, hn, by rw [PartsAll], .inl ⟨rfl, rfl⟩⟩
  · exact ⟨css, g, ⟨h4, .inr ⟨cap, junk, h5, h6, h7⟩⟩, h2, h3, .inr ⟨⟨cap, h5⟩, h6.lt⟩⟩
theorem POwn.done {n0 g g' m : Nat} {w w' : World} {v' : Value} {ps qs : List Part} {css ds : List (List Value)} (hn : n0 ≤ w.heap.size) (hm : m = qs.length) (h2 : n0 ≤ g) (h3 : PartsAll (fun k => n0 ≤ k ∧ k < w.heap.size ∧ k ≠ g) w ps css) (h4 : PartsAll (fun k => n0 ≤ k ∧ k < w.heap.size ∧ k ≠ g) w qs ds)
    (ho : Own w' 33 5 v' (ps.length + m) (css.flatten ++ ds.flatten) g') (hf : Fro (· = g) w w') (hg : g' = g ∨ w.heap.size ≤ g') : POwn n0 w' v' (ps ++ qs) := by
  have hsz := hf.size
  have hD : ∀ k, (n0 ≤ k ∧ k < w.heap.size ∧ k ≠ g) → (n0 ≤ k ∧ k < w'.heap.size ∧ k ≠ g') := fun k hk => ⟨hk.1, by omega, by rcases hg with e | e <;> omega⟩
  refine ⟨css ++ ds, g', by rw [List.flatten_append, List.length_append, ← hm]; exact ho, by rcases hg with e | e <;> omega, PartsAll.append ?_ ?_⟩
  · exact PartsAll.mono hD _ _ (PartsAll.fro hf (fun k hk e => hk.2.2 e) _ _ h3)
  · exact PartsAll.mono hD _ _ (PartsAll.fro hf (fun k hk e => hk.2.2 e) _ _ h4)
theorem POwn.parts {n0 : Nat} {w : World} {v : Value} {ps : List Part} (h : POwn n0 w v ps) (hb : ps.length ≤ 1099511627776) (hn : n0 ≤ w.heap.size) : PartsAt (fun k => n0 ≤ k ∧ k < w.heap.size) w v ps := by
  obtain ⟨css, g, h1, h2, h3⟩ := h
  obtain ⟨h4, h5, _⟩ := h3.cells
  have h6 := PartsAll.mono (D' := fun k => n0 ≤ k ∧ k < w.heap.size) (fun k hk => ⟨hk.1, hk.2.1⟩) _ _ h3
  rcases h1 with ⟨h7, ⟨h8, h9⟩ | ⟨cap, junk, h8, h9, h10⟩⟩
  · have h11 : ps = [] := List.length_eq_zero_iff.1 h9
    subst h11
    rw [PartsAll] at h3
    subst h3 h8
    exact ⟨[], ⟨none, 0, rfl, by simp, .inl rfl⟩, by rw [PartsAll]⟩
  · exact ⟨css, own_arr ⟨h7, .inr ⟨cap, junk, h8, h9, h10⟩⟩ h5 h4 ⟨h2, h9.lt⟩ hb, h6⟩

theorem flat_one : ∀ vs : List Value, (vs.map fun v => [v]).flatten = vs
  | [] => rfl
  | x :: l => by rw [List.map_cons, List.flatten_cons, flat_one l]; rfl
/-- A list of ways in a row of its own. -/
def WOwn (n0 : Nat) (w : World) (v : Value) (ws : List (List Part)) : Prop :=
  ∃ vs g, Own w 22 1 v ws.length vs g ∧ n0 ≤ g ∧ WaysAll (fun k => n0 ≤ k ∧ k < w.heap.size ∧ k ≠ g) w ws vs
theorem WOwn.ext {n0 : Nat} {w w' : World} {v : Value} {ws : List (List Part)} (h : WOwn n0 w v ws) (hx : Ext w w') : WOwn n0 w' v ws := by
  obtain ⟨css, g, h1, h2, h3⟩ := h
  have := hx.size
  exact ⟨css, g, h1.ext hx, h2, WaysAll.mono (fun k hk => ⟨hk.1, by omega, hk.2.2⟩) _ _ (WaysAll.fro hx (fun _ _ f => f) _ _ h3)⟩
theorem WOwn.nil {n0 : Nat} {w : World} : WOwn n0 w (.slice none 0 0) [] := ⟨[], n0, Own.nil _ _ _ _, Nat.le_refl _, by rw [WaysAll]⟩
theorem WOwn.len {n0 : Nat} {w : World} {v : Value} {ws : List (List Part)} (h : WOwn n0 w v ws) : ∃ a cap, v = .slice a ws.length cap := by
  obtain ⟨css, g, h1, _⟩ := h
  obtain ⟨a, cap, rfl, _⟩ := h1.form
  exact ⟨a, cap, rfl⟩
theorem WOwn.prep {n0 : Nat} {w : World} {v : Value} {ws : List (List Part)} (h : WOwn n0 w v ws) (hn : n0 ≤ w.heap.size) :
    ∃ vs g, Own w 22 1 v ws.length vs g ∧ n0 ≤ g ∧ WaysAll (fun k => n0 ≤ k ∧ k < w.heap.size ∧ k ≠ g) w ws vs ∧ ((ws = [] ∧ g = w.heap.size) ∨ (∃ cap, v = .slice (some ⟨g, 0, none⟩) ws.length cap) ∧ g < w.heap.size) := by
  obtain ⟨css, g, h1, h2, h3⟩ := h
  rcases h1 with ⟨h4, h5 | ⟨cap, junk, h5, h6, h7⟩⟩
  · have h8 : ws = [] := List.length_eq_zero_iff.1 h5.2
    subst h8
    rw [WaysAll] at h3
    subst h3
    exact ⟨[], w.heap.size, ⟨rfl, .inl h5⟩, hn, by rw [WaysAll], .inl ⟨rfl, rfl⟩⟩
  · exact ⟨css, g, ⟨h4, .inr ⟨cap, junk, h5, h6, h7⟩⟩, h2, h3, .inr ⟨⟨cap, h5⟩, h6.lt⟩⟩
theorem WOwn.done {n0 g g' : Nat} {w w' : World} {v' u : Value} {ws : List (List Part)} {x : List Part} {vs : List Value} (hn : n0 ≤ w.heap.size) (h2 : n0 ≤ g) (h3 : WaysAll (fun k => n0 ≤ k ∧ k < w.heap.size ∧ k ≠ g) w ws vs) (h4 : PartsAt (fun k => n0 ≤ k ∧ k < w.heap.size ∧ k ≠ g) w u x)
    (ho : Own w' 22 1 v' (ws.length + 1) (vs ++ [u]) g') (hf : Fro (· = g) w w') (hg : g' = g ∨ w.heap.size ≤ g') : WOwn n0 w' v' (ws ++ [x]) := by
  have hsz := hf.size
  have hD : ∀ k, (n0 ≤ k ∧ k < w.heap.size ∧ k ≠ g) → (n0 ≤ k ∧ k < w'.heap.size ∧ k ≠ g') := fun k hk => ⟨hk.1, by omega, by rcases hg with e | e <;> omega⟩
  refine ⟨vs ++ [u], g', by rw [List.length_append, List.length_singleton]; exact ho, by rcases hg with e | e <;> omega, WaysAll.append ?_ ?_⟩
  · exact WaysAll.mono hD _ _ (WaysAll.fro hf (fun k hk e => hk.2.2 e) _ _ h3)
  · refine WaysAll.one ?_
    obtain ⟨css, h5, h6⟩ := h4
    exact ⟨css, (h5.fro hf (fun k hk e => hk.2.2 e)).mono hD, PartsAll.mono hD _ _ (PartsAll.fro hf (fun k hk e => hk.2.2 e) _ _ h6)⟩
theorem WOwn.ways {n0 : Nat} {w : World} {v : Value} {ws : List (List Part)} (h : WOwn n0 w v ws) (hb : ws.length ≤ 1099511627776) : WaysAt (fun k => n0 ≤ k ∧ k < w.heap.size) w v ws := by
  obtain ⟨vs, g, h1, h2, h3⟩ := h
  obtain ⟨h4, _⟩ := h3.vals
  have h6 := WaysAll.mono (D' := fun k => n0 ≤ k ∧ k < w.heap.size) (fun k hk => ⟨hk.1, hk.2.1⟩) _ _ h3
  rcases h1 with ⟨h7, ⟨h8, h9⟩ | ⟨cap, junk, h8, h9, h10⟩⟩
  · have h11 : ws = [] := List.length_eq_zero_iff.1 h9
    subst h11
    rw [WaysAll] at h3
    subst h3 h8
    exact ⟨[], ⟨none, 0, rfl, by simp, .inl rfl⟩, by rw [WaysAll]⟩
  · refine ⟨vs, own_arr (T := 22) (sz := 1) (css := vs.map fun v => [v]) ?_ ?_ (by rw [List.length_map, h4]) ⟨h2, h9.lt⟩ hb, h6⟩
    · rw [flat_one]
      exact ⟨h7, .inr ⟨cap, junk, h8, h9, h10⟩⟩
    · intro x hx
      obtain ⟨u, _, rfl⟩ := List.mem_map.1 hx
      rfl

theorem POwn.blk {n0 : Nat} {w : World} {ps : List Part} {a : Addr} {l c : Nat} (h : POwn n0 w (.slice (some a) l c) ps) : a.block < w.heap.size := by
  obtain ⟨css, g, ⟨_, h1 | ⟨cap, junk, h1, h2, _⟩⟩, _⟩ := h
  · cases h1.1
  · injection h1 with h1
    injection h1 with h1
    rw [h1]
    exact h2.lt
theorem WOwn.blk {n0 : Nat} {w : World} {ps : List (List Part)} {a : Addr} {l c : Nat} (h : WOwn n0 w (.slice (some a) l c) ps) : a.block < w.heap.size := by
  obtain ⟨css, g, ⟨_, h1 | ⟨cap, junk, h1, h2, _⟩⟩, _⟩ := h
  · cases h1.1
  · injection h1 with h1
    injection h1 with h1
    rw [h1]
    exact h2.lt
theorem WaysAt.mono {D D' : Nat → Prop} {w : World} {v : Value} {ws : List (List Part)} (h : WaysAt D w v ws) (hd : ∀ k, D k → D' k) : WaysAt D' w v ws :=
  let ⟨vs, h1, h2⟩ := h; ⟨vs, h1.mono hd, WaysAll.mono hd _ _ h2⟩
theorem PartAt_iff {D : Nat → Prop} {w : World} {p : Part} {cs : List Value} : PartAt D w p cs ↔ ∃ rv wv, cs = [.int .i64 p.kind, .string p.text, .bool p.neg, rv, wv] ∧ RangesAt D w rv p.ranges ∧ WaysAt D w wv p.ways := by
  cases p
  rw [PartAt]
  rfl
section
variable {P : Program} {e : Env} {w w' : World} {dst : Option Tmp} {ty : TypeId} {pos : String} {aft : Array Edge} {g : Option (Nat × Bool)} {t : TypeId}
theorem ef_buildSlice0 {T sz bytes : Nat} {z : Value} (hu : P.underlying t = some (.slice T)) (hz : TI P T z sz bytes) :
    ∃ v w', St P ⟨dst, .buildSlice t 0 #[], ty, pos, aft, g⟩ e w v w' ∧ ∃ g', v = .slice (some ⟨g', 0, none⟩) 0 0 ∧ w.heap.size ≤ g' ∧ Blk w' g' T [] ∧ Ext w w' := by
  refine ⟨.slice (some ⟨w.heap.size, 0, none⟩) 0 0, { w with heap := w.heap.push (.cells #[] T) }, ?_, w.heap.size, rfl, Nat.le_refl _, blk_push w T [], ext_push _ _⟩
  unfold St
  have h1 : execOp (ev e) ⟨dst, .buildSlice t 0 #[], ty, pos, aft, g⟩ = (do pure (Next.value (← Instr.buildSlice t 0 ((#[] : Array (Nat × Operand)).map fun (i, x) => (i, ev e x))))) := rfl
  have hm : ((#[] : Array (Nat × Operand)).map fun (i, x) => (i, ev e x)) = #[] := by simp
  rw [h1, hm]
  refine run_v (s := Instr.buildSlice t 0 #[]) ?_
  unfold Instr.buildSlice
  rw [Sem.run_bind, run_underlying' hu, Result.andThen_ok]
  dsimp only
  rw [Sem.run_bind, hz.sizeOf, Result.andThen_ok, Nat.zero_mul, if_neg (by decide), if_pos rfl]
  simp only [Instr.fill]
  have h0 : ∀ f : Nat → Value, Array.map f (Array.range 0) = #[] := fun f => by rw [show Array.range 0 = #[] from by simp [Array.range]]; simp
  simp only [h0]
  rfl
end
end Go.Proofs.YtndfhicdabdafaaDoor
