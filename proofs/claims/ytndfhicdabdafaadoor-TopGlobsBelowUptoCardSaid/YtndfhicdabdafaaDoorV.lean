/- The places that a search has seen, and those still to be looked at, in memory. -/
import Derived.Test.YtndfhicdabdafaaDoorU
import Derived.Test.YtndfhicdabdafaaDoorKc
namespace Go.Proofs.YtndfhicdabdafaaDoor
open Go Go.RowKit

def pcs (p : Nat × Nat) : List Value := [.int .i64 (p.1 : Int), .int .i64 (p.2 : Int)]
def flatP (td : List (Nat × Nat)) : List Value := td.flatMap pcs
theorem flatP_add (td : List (Nat × Nat)) (p : Nat × Nat) : flatP (td ++ [p]) = flatP td ++ pcs p := by simp [flatP]
theorem flatP_len (td : List (Nat × Nat)) : (flatP td).length = td.length * 2 := by
  induction td with
  | nil => rfl
  | cons p td ih => rw [flatP, List.flatMap_cons, List.length_append, ← flatP, ih, List.length_cons]; show 2 + _ = _; omega
/-- What the search holds: the box of the map, the map, the box of the list, the list; L: blocks that it does not touch. -/
def Vis8 (w : World) (b7 b8 ms n0 : Nat) (L : List Nat) (se td : List (Nat × Nat)) : Prop :=
  ∃ v g, Blk w b7 91 [.map (some ms)] ∧ SetAt w ms mkP se ∧ Blk w b8 92 [v] ∧ Own w 94 2 v td.length (flatP td) g ∧
    (v = .slice none 0 0 ∨ (n0 ≤ g ∧ g ∉ L ∧ g ≠ b8 ∧ g ≠ ms ∧ g ≠ b7 ∧ g < w.heap.size)) ∧ n0 ≤ ms ∧ n0 ≤ b8 ∧ ms ∉ L ∧ b8 ∉ L ∧ b7 ≠ b8
theorem Vis8.ext {w w' : World} {b7 b8 ms n0 : Nat} {L : List Nat} {se td : List (Nat × Nat)} (h : Vis8 w b7 b8 ms n0 L se td) (hx : Ext w w') : Vis8 w' b7 b8 ms n0 L se td := by
  obtain ⟨v, g, h1, h2, h3, h4, h5, h6⟩ := h
  refine ⟨v, g, h1.ext hx, h2.ext hx, h3.ext hx, h4.ext hx, h5.imp id (fun ⟨a, b, c, d, e, f⟩ => ⟨a, b, c, d, e, by have := hx.size; omega⟩), h6⟩
theorem Vis8.fro {S : Nat → Prop} {w w' : World} {b7 b8 ms n0 : Nat} {L : List Nat} {se td : List (Nat × Nat)} (h : Vis8 w b7 b8 ms n0 L se td) (hx : Fro S w w') (h0 : ∀ k, S k → k ∈ L) (h7 : ¬ S b7) : Vis8 w' b7 b8 ms n0 L se td := by
  obtain ⟨v, g, h1, h2, h3, h4, h5, h6, h8, h9, h10, h11⟩ := h
  have hsz := hx.size
  have h4' : Own w' 94 2 v td.length (flatP td) g := by
    rcases h5 with rfl | h5
    · obtain ⟨a, b⟩ := h4
      rcases b with b | ⟨cap, junk, b, _⟩
      · exact ⟨a, .inl b⟩
      · cases b
    · exact h4.fro hx (fun s => h5.2.1 (h0 _ s))
  exact ⟨v, g, h1.fro hx h7, h2.fro hx (fun s => h9 (h0 _ s)), h3.fro hx (fun s => h10 (h0 _ s)), h4', h5.imp id (fun ⟨a, b, c, d, e, f⟩ => ⟨a, b, c, d, e, by omega⟩), h6, h8, h9, h10, h11⟩
theorem Vis8.lt {w : World} {b7 b8 ms n0 : Nat} {L : List Nat} {se td : List (Nat × Nat)} (h : Vis8 w b7 b8 ms n0 L se td) : b7 < w.heap.size ∧ b8 < w.heap.size ∧ ms < w.heap.size := by
  obtain ⟨v, g, h1, h2, h3, _⟩ := h
  exact ⟨h1.lt, h3.lt, h2.lt⟩
/-- A new block is none of these. -/
theorem Vis8.add {w w' : World} {b7 b8 ms n0 b : Nat} {L : List Nat} {se td : List (Nat × Nat)} (h : Vis8 w b7 b8 ms n0 L se td) (hx : Ext w w') (hb : w.heap.size ≤ b) : Vis8 w' b7 b8 ms n0 (b :: L) se td := by
  obtain ⟨_, l2, l3⟩ := h.lt
  obtain ⟨v, g, h1, h2, h3, h4, h5, h6, h7, h8, h9, h10⟩ := h
  have hnl : ∀ x, x < w.heap.size → x ∉ L → x ∉ b :: L := by
    intro x hxl hnx hm
    rcases List.mem_cons.1 hm with e | hm
    · omega
    · exact hnx hm
  exact ⟨v, g, h1.ext hx, h2.ext hx, h3.ext hx, h4.ext hx, h5.imp id (fun ⟨a, b2, c, d, e, f⟩ => ⟨a, hnl _ f b2, c, d, e, by have := hx.size; omega⟩), h6, h7, hnl _ l3 h8, hnl _ l2 h9, h10⟩
theorem Vis8.sub {w : World} {b7 b8 ms n0 : Nat} {L L' : List Nat} {se td : List (Nat × Nat)} (h : Vis8 w b7 b8 ms n0 L se td) (hl : ∀ k ∈ L', k ∈ L) : Vis8 w b7 b8 ms n0 L' se td := by
  obtain ⟨v, g, h1, h2, h3, h4, h5, h6, h7, h8, h9, h10⟩ := h
  exact ⟨v, g, h1, h2, h3, h4, h5.imp id (fun ⟨a, b, c⟩ => ⟨a, fun hm => b (hl _ hm), c⟩), h6, h7, fun hm => h8 (hl _ hm), fun hm => h9 (hl _ hm), h10⟩
/-- All places of a net of n states. -/
def places (n : Nat) : List (Nat × Nat) := (List.range n).flatMap fun s => [(s, 0), (s, 1), (s, 2), (s, 3)]
theorem places_mem {n : Nat} {p : Nat × Nat} (h1 : p.1 < n) (h2 : p.2 ≤ 3) : p ∈ places n := by
  obtain ⟨s, k⟩ := p
  dsimp only at h1 h2
  refine List.mem_flatMap.2 ⟨s, List.mem_range.2 h1, ?_⟩
  have : k = 0 ∨ k = 1 ∨ k = 2 ∨ k = 3 := by omega
  rcases this with rfl | rfl | rfl | rfl <;> simp
theorem places_len (n : Nat) : (places n).length = n * 4 := by
  unfold places
  rw [List.length_flatMap]
  have : ∀ l : List Nat, (l.map fun s => [(s, 0), (s, 1), (s, 2), (s, 3)].length).sum = l.length * 4 := by
    intro l
    induction l with
    | nil => rfl
    | cons x l ih =>
      rw [List.map_cons, List.sum_cons, ih]
      show 4 + l.length * 4 = (l.length + 1) * 4
      omega
  rw [this, List.length_range]
theorem out_more {α : Type} [DecidableEq α] {U se td : List α} {r : α} (hr : r ∈ U) : out U (if r ∈ se then se else se ++ [r]) + (if r ∈ se then td else td ++ [r]).length ≤ out U se + td.length := by
  by_cases e : r ∈ se
  · rw [if_pos e, if_pos e]; exact Nat.le_refl _
  · rw [if_neg e, if_neg e]
    have := out_drop (ks' := se ++ [r]) hr e (fun x => by rw [List.mem_append, List.mem_singleton]; exact or_comm)
    rw [List.length_append, List.length_singleton]
    omega
theorem nd_t {p : Prop} {i : Decidable p} (h : (!@decide p i) = true) : ¬ p := by
  intro hp
  rw [decide_eq_true hp] at h
  cases h
theorem nd_f {p : Prop} {i : Decidable p} (h : (!@decide p i) = false) : p := by
  cases hd : @decide p i with
  | true => exact of_decide_eq_true hd
  | false => rw [hd] at h; cases h
/-- p is visited. -/
def Add (p : Nat × Nat) (se td se' td' : List (Nat × Nat)) : Prop := (p ∈ se ∧ se' = se ∧ td' = td) ∨ (p ∉ se ∧ se' = se ++ [p] ∧ td' = td ++ [p])
theorem Add.more {p : Nat × Nat} {se td se' td' U : List (Nat × Nat)} (h : Add p se td se' td') (hU : p ∈ U) : out U se' + td'.length ≤ out U se + td.length := by
  rcases h with ⟨_, rfl, rfl⟩ | ⟨h, rfl, rfl⟩
  · exact Nat.le_refl _
  · have := out_more (U := U) (se := se) (td := td) hU
    rw [if_neg h, if_neg h] at this
    exact this
theorem Add.mem {p : Nat × Nat} {se td se' td' : List (Nat × Nat)} (h : Add p se td se' td') : p ∈ se' := by
  rcases h with ⟨h, rfl, _⟩ | ⟨_, rfl, _⟩
  · exact h
  · simp
theorem Add.len {p : Nat × Nat} {se td se' td' : List (Nat × Nat)} (h : Add p se td se' td') : td'.length ≤ td.length + 1 := by
  rcases h with ⟨_, _, rfl⟩ | ⟨_, _, rfl⟩
  · omega
  · rw [List.length_append, List.length_singleton]; omega
theorem Add.sea {N : NetL} {ks : List Nat} {en : Nat} {se td se' td' : List (Nat × Nat)} {p r : Nat × Nat} {j b : Nat} (h : Add r se td se' td') (hA : SeaA N ks en se td p j b) (hr : Vis N ks r) (hr1 : r.1 < N.length) (hr2 : r.2 ≤ 3) : SeaA N ks en se' td' p j b := by
  have := hA.more hr hr1 hr2
  rcases h with ⟨h, rfl, rfl⟩ | ⟨h, rfl, rfl⟩
  · rw [if_pos h, if_pos h] at this; exact this
  · rw [if_neg h, if_neg h] at this; exact this
theorem Add.sea0 {N : NetL} {ks done : List Nat} {se td se' td' : List (Nat × Nat)} {a : Nat} (h : Add (a, 0) se td se' td') (h0 : Sea0 N ks done se td) : Sea0 N ks (a :: done) se' td' := by
  rcases h with ⟨h, rfl, rfl⟩ | ⟨h, rfl, rfl⟩
  · refine ⟨fun p => ?_, h0.td⟩
    rw [h0.mem, List.mem_cons]
    refine and_congr_right fun _ => ⟨.inr, fun h1 => h1.elim (fun e => ?_) id⟩
    rw [e]; exact ((h0.mem _).1 h).2
  · refine ⟨fun p => ?_, fun p => ?_⟩
    · rw [List.mem_append, List.mem_singleton, h0.mem, List.mem_cons]
      obtain ⟨q, k⟩ := p
      constructor
      · rintro (⟨h1, h2⟩ | h1)
        · exact ⟨h1, .inr h2⟩
        · injection h1 with h1 h2; exact ⟨h2, .inl h1⟩
      · rintro ⟨h1, h2 | h2⟩
        · dsimp only at h1 h2; subst h1 h2; exact .inr rfl
        · exact .inl ⟨h1, h2⟩
    · rw [List.mem_append, List.mem_append, h0.td]
theorem Add.sub {p : Nat × Nat} {se td se' td' : List (Nat × Nat)} (h : Add p se td se' td') : ∀ q ∈ se, q ∈ se' := by
  rcases h with ⟨_, rfl, _⟩ | ⟨_, rfl, _⟩
  · exact fun _ h => h
  · exact fun _ h => List.mem_append_left _ h
theorem u8_wrap {b : Nat} (h : b < 256) : IntKind.u8.wrap (b : Int) = ((b.toUInt8).toNat : Int) := by
  have e : (b.toUInt8).toNat = b := by simp; omega
  rw [e]
  show ((b : Int) % 256) = _
  omega
end Go.Proofs.YtndfhicdabdafaaDoor
