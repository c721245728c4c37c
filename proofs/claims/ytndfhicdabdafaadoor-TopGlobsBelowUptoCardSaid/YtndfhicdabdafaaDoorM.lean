/- The data of globs: parts as Lean has them, and how they lie in memory. -/
import Derived.Test.YtndfhicdabdafaaDoorKb
namespace Go.Proofs.YtndfhicdabdafaaDoor
open Go Go.RowKit

theorem Ext.ext {a b c : World} (h : Ext a b) (h' : Ext b c) : Ext a c := Fro.trans h h'

/-- A part of a glob: its kind, text, whether the set is turned, ranges, ways. -/
inductive Part where
  | mk (kind : Int) (text : ByteArray) (neg : Bool) (ranges : List (Int × Int)) (ways : List (List Part))

namespace Part
def kind : Part → Int | .mk k _ _ _ _ => k
def text : Part → ByteArray | .mk _ t _ _ _ => t
def neg : Part → Bool | .mk _ _ n _ _ => n
def ranges : Part → List (Int × Int) | .mk _ _ _ r _ => r
def ways : Part → List (List Part) | .mk _ _ _ _ w => w
end Part

/-- A slice whose elements have sz cells each: these. D: the blocks in which it may lie. -/
def Arr (D : Nat → Prop) (w : World) (sz : Nat) (v : Value) (css : List (List Value)) : Prop :=
  ∃ a cp, v = .slice a css.length cp ∧ css.length ≤ 1099511627776 ∧ (css = [] ∨ ∃ b o, D b ∧ a = some ⟨b, o, none⟩ ∧ ∀ i cs, css[i]? = some cs → Cells w b (o + i * sz) cs)

theorem Arr.fro {D S : Nat → Prop} {w w' : World} {sz : Nat} {v : Value} {css : List (List Value)} (h : Arr D w sz v css) (hx : Fro S w w') (hd : ∀ k, D k → ¬ S k) : Arr D w' sz v css := by
  obtain ⟨a, cp, hv, hlen, h⟩ := h
  refine ⟨a, cp, hv, hlen, ?_⟩
  rcases h with h | ⟨b, o, hb, ha, h⟩
  · exact .inl h
  · exact .inr ⟨b, o, hb, ha, fun i cs hi => (h i cs hi).fro hx (hd b hb)⟩
theorem Arr.ext {D : Nat → Prop} {w w' : World} {sz : Nat} {v : Value} {css : List (List Value)} (h : Arr D w sz v css) (hx : Ext w w') : Arr D w' sz v css := h.fro hx fun _ _ f => f
theorem Arr.mono {D D' : Nat → Prop} {w : World} {sz : Nat} {v : Value} {css : List (List Value)} (h : Arr D w sz v css) (hd : ∀ k, D k → D' k) : Arr D' w sz v css := by
  obtain ⟨a, cp, hv, hlen, h⟩ := h
  refine ⟨a, cp, hv, hlen, ?_⟩
  rcases h with h | ⟨b, o, hb, ha, h⟩
  · exact .inl h
  · exact .inr ⟨b, o, hd b hb, ha, h⟩
/-- An element. -/
theorem Arr.at {D : Nat → Prop} {w : World} {sz : Nat} {a : Option Addr} {l cp : Nat} {css : List (List Value)} (h : Arr D w sz (.slice a l cp) css) {i : Nat} (hi : i < css.length) :
    l = css.length ∧ ∃ b o, D b ∧ a = some ⟨b, o, none⟩ ∧ Cells w b (o + i * sz) css[i] := by
  obtain ⟨a', cp', hv, hlen, h⟩ := h
  cases hv
  refine ⟨rfl, ?_⟩
  rcases h with h | ⟨b, o, hb, ha, h⟩
  · subst h; simp at hi
  · exact ⟨b, o, hb, ha, h i _ (by simp [hi])⟩

def RangesAt (D : Nat → Prop) (w : World) (v : Value) (rs : List (Int × Int)) : Prop := Arr D w 2 v (rs.map fun p => [.int .i64 p.1, .int .i64 p.2])

mutual
def PartAt (D : Nat → Prop) (w : World) : Part → List Value → Prop
  | .mk k t n rs ws, cs => ∃ rv wv, cs = [.int .i64 k, .string t, .bool n, rv, wv] ∧ RangesAt D w rv rs ∧ ∃ vs, Arr D w 1 wv (vs.map fun v => [v]) ∧ WaysAll D w ws vs
def PartsAll (D : Nat → Prop) (w : World) : List Part → List (List Value) → Prop
  | [], css => css = []
  | p :: ps, css => ∃ c r, css = c :: r ∧ PartAt D w p c ∧ PartsAll D w ps r
def WaysAll (D : Nat → Prop) (w : World) : List (List Part) → List Value → Prop
  | [], vs => vs = []
  | x :: xs, vs => ∃ v r css, vs = v :: r ∧ Arr D w 5 v css ∧ PartsAll D w x css ∧ WaysAll D w xs r
end
def PartsAt (D : Nat → Prop) (w : World) (v : Value) (ps : List Part) : Prop := ∃ css, Arr D w 5 v css ∧ PartsAll D w ps css
def WaysAt (D : Nat → Prop) (w : World) (v : Value) (ws : List (List Part)) : Prop := ∃ vs, Arr D w 1 v (vs.map fun v => [v]) ∧ WaysAll D w ws vs

section
variable {D D' S : Nat → Prop} {w w' : World}
mutual
theorem PartAt.fro (hx : Fro S w w') (hd : ∀ k, D k → ¬ S k) : ∀ (p : Part) (cs : List Value), PartAt D w p cs → PartAt D w' p cs
  | .mk _ _ _ _ ws, _, h => by
    obtain ⟨rv, wv, h1, h2, vs, h3, h4⟩ := h
    exact ⟨rv, wv, h1, h2.fro hx hd, vs, h3.fro hx hd, WaysAll.fro hx hd ws vs h4⟩
theorem PartsAll.fro (hx : Fro S w w') (hd : ∀ k, D k → ¬ S k) : ∀ (ps : List Part) (css : List (List Value)), PartsAll D w ps css → PartsAll D w' ps css
  | [], _, h => h
  | p :: ps, _, h => by
    obtain ⟨c, r, h1, h2, h3⟩ := h
    exact ⟨c, r, h1, PartAt.fro hx hd p c h2, PartsAll.fro hx hd ps r h3⟩
theorem WaysAll.fro (hx : Fro S w w') (hd : ∀ k, D k → ¬ S k) : ∀ (ws : List (List Part)) (vs : List Value), WaysAll D w ws vs → WaysAll D w' ws vs
  | [], _, h => h
  | x :: xs, _, h => by
    obtain ⟨v, r, css, h1, h2, h3, h4⟩ := h
    exact ⟨v, r, css, h1, h2.fro hx hd, PartsAll.fro hx hd x css h3, WaysAll.fro hx hd xs r h4⟩
end
mutual
theorem PartAt.mono (hd : ∀ k, D k → D' k) : ∀ (p : Part) (cs : List Value), PartAt D w p cs → PartAt D' w p cs
  | .mk _ _ _ _ ws, _, h => by
    obtain ⟨rv, wv, h1, h2, vs, h3, h4⟩ := h
    exact ⟨rv, wv, h1, h2.mono hd, vs, h3.mono hd, WaysAll.mono hd ws vs h4⟩
theorem PartsAll.mono (hd : ∀ k, D k → D' k) : ∀ (ps : List Part) (css : List (List Value)), PartsAll D w ps css → PartsAll D' w ps css
  | [], _, h => h
  | p :: ps, _, h => by
    obtain ⟨c, r, h1, h2, h3⟩ := h
    exact ⟨c, r, h1, PartAt.mono hd p c h2, PartsAll.mono hd ps r h3⟩
theorem WaysAll.mono (hd : ∀ k, D k → D' k) : ∀ (ws : List (List Part)) (vs : List Value), WaysAll D w ws vs → WaysAll D' w ws vs
  | [], _, h => h
  | x :: xs, _, h => by
    obtain ⟨v, r, css, h1, h2, h3, h4⟩ := h
    exact ⟨v, r, css, h1, h2.mono hd, PartsAll.mono hd x css h3, WaysAll.mono hd xs r h4⟩
end

theorem RangesAt.ext {v : Value} {rs : List (Int × Int)} (h : RangesAt D w v rs) (hx : Ext w w') : RangesAt D w' v rs := Arr.ext h hx
theorem PartAt.ext {p : Part} {cs : List Value} (h : PartAt D w p cs) (hx : Ext w w') : PartAt D w' p cs := PartAt.fro hx (fun _ _ f => f) p cs h
theorem PartsAt.fro {v : Value} {ps : List Part} (h : PartsAt D w v ps) (hx : Fro S w w') (hd : ∀ k, D k → ¬ S k) : PartsAt D w' v ps :=
  let ⟨css, h1, h2⟩ := h; ⟨css, h1.fro hx hd, PartsAll.fro hx hd ps css h2⟩
theorem PartsAt.ext {v : Value} {ps : List Part} (h : PartsAt D w v ps) (hx : Ext w w') : PartsAt D w' v ps := h.fro hx fun _ _ f => f
theorem PartsAt.mono {v : Value} {ps : List Part} (h : PartsAt D w v ps) (hd : ∀ k, D k → D' k) : PartsAt D' w v ps :=
  let ⟨css, h1, h2⟩ := h; ⟨css, h1.mono hd, PartsAll.mono hd ps css h2⟩
theorem WaysAt.fro {v : Value} {ws : List (List Part)} (h : WaysAt D w v ws) (hx : Fro S w w') (hd : ∀ k, D k → ¬ S k) : WaysAt D w' v ws :=
  let ⟨vs, h1, h2⟩ := h; ⟨vs, h1.fro hx hd, WaysAll.fro hx hd ws vs h2⟩
theorem WaysAt.ext {v : Value} {ws : List (List Part)} (h : WaysAt D w v ws) (hx : Ext w w') : WaysAt D w' v ws := h.fro hx fun _ _ f => f

/-- A part's five cells. -/
theorem PartAt.cases {p : Part} {cs : List Value} (h : PartAt D w p cs) :
    ∃ rv wv, cs = [.int .i64 p.kind, .string p.text, .bool p.neg, rv, wv] ∧ RangesAt D w rv p.ranges ∧ WaysAt D w wv p.ways := by
  cases p with
  | mk k t n rs ws => exact h
theorem PartsAll.length : ∀ {ps : List Part} {css : List (List Value)}, PartsAll D w ps css → css.length = ps.length
  | [], _, h => by cases h; rfl
  | _ :: _, _, h => by obtain ⟨c, r, rfl, _, h3⟩ := h; simp [h3.length]
theorem PartsAll.at : ∀ {ps : List Part} {css : List (List Value)}, PartsAll D w ps css → ∀ {i : Nat} (hi : i < ps.length) (hc : i < css.length), PartAt D w ps[i] css[i]
  | [], _, _, i, hi, _ => by simp at hi
  | p :: ps, _, h, i, hi, hc => by
    obtain ⟨c, r, rfl, h2, h3⟩ := h
    cases i with
    | zero => exact h2
    | succ i => exact h3.at (by simpa using hi) (by simpa using hc)
theorem WaysAll.length : ∀ {ws : List (List Part)} {vs : List Value}, WaysAll D w ws vs → vs.length = ws.length
  | [], _, h => by cases h; rfl
  | _ :: _, _, h => by obtain ⟨v, r, css, rfl, _, _, h4⟩ := h; simp [h4.length]
theorem WaysAll.at : ∀ {ws : List (List Part)} {vs : List Value}, WaysAll D w ws vs → ∀ {i : Nat} (hi : i < ws.length) (hc : i < vs.length), PartsAt D w vs[i] ws[i]
  | [], _, _, i, hi, _ => by simp at hi
  | x :: xs, _, h, i, hi, hc => by
    obtain ⟨v, r, css, rfl, h2, h3, h4⟩ := h
    cases i with
    | zero => exact ⟨css, h2, h3⟩
    | succ i => exact h4.at (by simpa using hi) (by simpa using hc)

theorem PartsAt.form {v : Value} {ps : List Part} (h : PartsAt D w v ps) : ∃ a cp, v = .slice a ps.length cp ∧ ps.length ≤ 1099511627776 := by
  obtain ⟨css, ⟨a, cp, hv, hl, _⟩, h2⟩ := h
  exact ⟨a, cp, by rw [hv, h2.length], by rw [← h2.length]; exact hl⟩
theorem WaysAt.form {v : Value} {ws : List (List Part)} (h : WaysAt D w v ws) : ∃ a cp, v = .slice a ws.length cp ∧ ws.length ≤ 1099511627776 := by
  obtain ⟨vs, ⟨a, cp, hv, hl, _⟩, h2⟩ := h
  rw [List.length_map, h2.length] at hl
  exact ⟨a, cp, by rw [hv, List.length_map, h2.length], hl⟩
theorem RangesAt.form {v : Value} {rs : List (Int × Int)} (h : RangesAt D w v rs) : ∃ a cp, v = .slice a rs.length cp ∧ rs.length ≤ 1099511627776 := by
  obtain ⟨a, cp, hv, hl, _⟩ := h
  rw [List.length_map] at hl
  exact ⟨a, cp, by rw [hv, List.length_map], hl⟩
/-- Element i of a slice of parts. -/
theorem PartsAt.at {a : Option Addr} {l cp : Nat} {ps : List Part} (h : PartsAt D w (.slice a l cp) ps) {i : Nat} (hi : i < ps.length) :
    ∃ b o rv wv, D b ∧ a = some ⟨b, o, none⟩ ∧ Cells w b (o + i * 5) [.int .i64 ps[i].kind, .string ps[i].text, .bool ps[i].neg, rv, wv] ∧ RangesAt D w rv ps[i].ranges ∧ WaysAt D w wv ps[i].ways := by
  obtain ⟨css, h1, h2⟩ := h
  have hl := h2.length
  obtain ⟨_, b, o, hb, ha, hc⟩ := h1.at (i := i) (by omega)
  obtain ⟨rv, wv, he, hr, hw⟩ := (h2.at hi (by omega)).cases
  exact ⟨b, o, rv, wv, hb, ha, by rw [← he]; exact hc, hr, hw⟩
theorem WaysAt.at {a : Option Addr} {l cp : Nat} {ws : List (List Part)} (h : WaysAt D w (.slice a l cp) ws) {i : Nat} (hi : i < ws.length) :
    ∃ b o v, D b ∧ a = some ⟨b, o, none⟩ ∧ w.cell? ⟨b, o + i * 1, none⟩ = some v ∧ PartsAt D w v ws[i] := by
  obtain ⟨vs, h1, h2⟩ := h
  have hl := h2.length
  obtain ⟨_, b, o, hb, ha, hc⟩ := h1.at (i := i) (by simp; omega)
  refine ⟨b, o, vs[i], hb, ha, ?_, h2.at hi (by omega)⟩
  have := hc 0 vs[i] (by simp)
  simpa using this
theorem RangesAt.at {a : Option Addr} {l cp : Nat} {rs : List (Int × Int)} (h : RangesAt D w (.slice a l cp) rs) {i : Nat} (hi : i < rs.length) :
    ∃ b o, D b ∧ a = some ⟨b, o, none⟩ ∧ Cells w b (o + i * 2) [.int .i64 rs[i].1, .int .i64 rs[i].2] := by
  obtain ⟨_, b, o, hb, ha, hc⟩ := Arr.at h (i := i) (by simp [hi])
  exact ⟨b, o, hb, ha, by simpa using hc⟩
end

/-! ### how many parts, and how deep -/
mutual
def Part.cnt : Part → Nat | .mk _ _ _ _ ws => 1 + cntW ws
def cntP : List Part → Nat
  | [] => 0
  | p :: ps => p.cnt + cntP ps
def cntW : List (List Part) → Nat
  | [] => 0
  | x :: xs => cntP x + cntW xs
end
mutual
def Part.dep : Part → Nat | .mk k _ _ _ ws => depW ws + (if k = 6 then 1 else 0)
def depP : List Part → Nat
  | [] => 0
  | p :: ps => max p.dep (depP ps)
def depW : List (List Part) → Nat
  | [] => 0
  | x :: xs => max (depP x) (depW xs)
end
theorem Part.cnt_eq (p : Part) : p.cnt = 1 + cntW p.ways := by cases p; simp [Part.cnt, Part.ways]
theorem Part.dep_eq (p : Part) : p.dep = depW p.ways + (if p.kind = 6 then 1 else 0) := by cases p; unfold Part.dep; rfl
mutual
theorem Part.dep_le : ∀ p : Part, p.dep ≤ p.cnt
  | .mk k _ _ _ ws => by
    have := depW_le ws
    simp only [Part.dep, Part.cnt]
    split <;> omega
theorem depP_le : ∀ ps : List Part, depP ps ≤ cntP ps
  | [] => Nat.le_refl _
  | p :: ps => by
    have h1 := p.dep_le
    have h2 := depP_le ps
    simp only [depP, cntP]
    omega
theorem depW_le : ∀ ws : List (List Part), depW ws ≤ cntW ws
  | [] => Nat.le_refl _
  | x :: xs => by
    have h1 := depP_le x
    have h2 := depW_le xs
    simp only [depW, cntW]
    omega
end
theorem not_t {b : Bool} (h : (!b) = true) : b = false := by cases b <;> simp_all
theorem not_f {b : Bool} (h : (!b) = false) : b = true := by cases b <;> simp_all
theorem vint {k : IntKind} {a b : Int} (h : a = b) : Value.int k a = Value.int k b := by rw [h]
theorem vbool {a b : Bool} (h : a = b) : Value.bool a = Value.bool b := by rw [h]
theorem vstr {a b : ByteArray} (h : a = b) : Value.string a = Value.string b := by rw [h]
theorem vec1 {a a' : Value} (h1 : a = a') : [a] = [a'] := by rw [h1]
theorem vec2 {a b a' b' : Value} (h1 : a = a') (h2 : b = b') : [a, b] = [a', b'] := by rw [h1, h2]
theorem vec3 {a b c a' b' c' : Value} (h1 : a = a') (h2 : b = b') (h3 : c = c') : [a, b, c] = [a', b', c'] := by rw [h1, h2, h3]
theorem vec4 {a b c d a' b' c' d' : Value} (h1 : a = a') (h2 : b = b') (h3 : c = c') (h4 : d = d') : [a, b, c, d] = [a', b', c', d'] := by rw [h1, h2, h3, h4]
theorem int_max {a b c : Nat} (h : max a b = c) : (if (b : Int) > (a : Int) then (b : Int) else (a : Int)) = ((c : Nat) : Int) := by split <;> omega
theorem cntP_drop (ps : List Part) : ∀ k, cntP (ps.drop k) ≤ cntP ps := by
  induction ps with
  | nil => intro k; simp
  | cons p ps ih =>
    intro k
    cases k with
    | zero => simp
    | succ k => have := ih k; simp only [List.drop_succ_cons, cntP]; omega
theorem cntW_drop (ws : List (List Part)) : ∀ k, cntW (ws.drop k) ≤ cntW ws := by
  induction ws with
  | nil => intro k; simp
  | cons p ps ih =>
    intro k
    cases k with
    | zero => simp
    | succ k => have := ih k; simp only [List.drop_succ_cons, cntW]; omega
theorem drop_at {α : Type} {l : List α} {k : Nat} (h : k < l.length) : l.drop k = l[k] :: l.drop (k + 1) := List.drop_eq_getElem_cons h
end Go.Proofs.YtndfhicdabdafaaDoor
