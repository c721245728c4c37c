/- The strings.Builder that a call has made: what it holds, and where. -/
import Derived.Test.YtndfhicdabdafaaDoorS
import Derived.Test.YtndfhicdabdafaaDoorKc
import Derived.Test.YtndfhicdabdafaaDoorKt
import Derived.Lib.Builder
import Derived.Lib.UnsafeStr
import Derived.Lib.SlBytesRow
namespace Go.Proofs.YtndfhicdabdafaaDoor
open Go Go.RowKit

def byteV (c : UInt8) : Value := .int .u8 (c.toNat : Int)

theorem byteV_one (l : List UInt8) : (l.map byteV).all one = true := by
  rw [List.all_map, List.all_eq_true]
  intro x _
  rfl
theorem byteV_len (s : ByteArray) : ((byts s).map byteV).length = s.size * 1 := by simp [byts]

/-- At block bb a Builder that holds the bytes bs; its buffer lies in block g. -/
def Bld (w : World) (bb g : Nat) (bs : List UInt8) : Prop :=
  ∃ av sv, Blk w bb 56 [av, sv] ∧ (av = .pointer none ∨ av = .pointer (some ⟨bb, 0, none⟩)) ∧ Own w 5 1 sv bs.length (bs.map byteV) g ∧ (bs = [] → sv = .slice none 0 0) ∧ bb < g

/-- The same, but it may have been read by String. -/
def BldR (w : World) (bb g : Nat) (bs : List UInt8) : Prop :=
  ∃ av sv, Blk w bb 56 [av, sv] ∧ ((bs = [] ∧ sv = .slice none 0 0) ∨ ∃ cap junk fz, sv = .slice (some ⟨g, 0, none⟩) bs.length cap ∧ w.heap[g]? = some (.cells (bs.map byteV ++ junk).toArray 5 fz) ∧ 0 < bs.length ∧ bs.length ≤ cap) ∧ bb < g

theorem Bld.r {w : World} {bb g : Nat} {bs : List UInt8} (h : Bld w bb g bs) : BldR w bb g bs := by
  obtain ⟨av, sv, h1, _, h3, h4, h5⟩ := h
  refine ⟨av, sv, h1, ?_, h5⟩
  by_cases hb : bs = []
  · exact .inl ⟨hb, h4 hb⟩
  · refine .inr ?_
    have hl : 0 < bs.length := List.length_pos_iff.2 hb
    rcases h3.2 with ⟨_, h0⟩ | ⟨cap, junk, hv, hk, _, hc⟩
    · omega
    · exact ⟨cap, junk, (0, 0), hv, hk, hl, hc⟩
theorem Bld.fro {S : Nat → Prop} {w w' : World} {bb g : Nat} {bs : List UInt8} (h : Bld w bb g bs) (hx : Fro S w w') (h1 : ¬ S bb) (h2 : ¬ S g) : Bld w' bb g bs := by
  obtain ⟨av, sv, a1, a2, a3, a4, a5⟩ := h
  exact ⟨av, sv, a1.fro hx h1, a2, a3.fro hx h2, a4, a5⟩
theorem Bld.ext {w w' : World} {bb g : Nat} {bs : List UInt8} (h : Bld w bb g bs) (hx : Ext w w') : Bld w' bb g bs := h.fro hx id id
theorem Bld.lt {w : World} {bb g : Nat} {bs : List UInt8} (h : Bld w bb g bs) : bb < w.heap.size := by
  obtain ⟨av, sv, a1, _⟩ := h
  exact a1.lt
theorem BldR.ext {w w' : World} {bb g : Nat} {bs : List UInt8} (h : BldR w bb g bs) (hx : Ext w w') : BldR w' bb g bs := by
  obtain ⟨av, sv, a1, a2, a3⟩ := h
  refine ⟨av, sv, a1.ext hx, ?_, a3⟩
  rcases a2 with a2 | ⟨cap, junk, fz, b1, b2, b3⟩
  · exact .inl a2
  · refine .inr ⟨cap, junk, fz, b1, ?_, b3⟩
    have hlt : g < w.heap.size := by
      rcases Nat.lt_or_ge g w.heap.size with h1 | h1
      · exact h1
      · rw [Array.getElem?_eq_none h1] at b2; cases b2
    rw [hx.block g hlt id, b2]

section
variable {P : Program} {e : Env} {w w' : World} {dst : Option Tmp} {ty : TypeId} {pos : String} {aft : Array Edge} {gd : Option (Nat × Bool)} {x y : Operand} {ats : Array TypeId} {v a b : Value}
theorem st_unsafeSliceData (hx : ev e x = a) (h : (Builtin.unsafeSliceData_ ats ty #[a]).run P w = .ok v w') :
    St P ⟨dst, .call { callee := .builtin .unsafeSliceData, args := #[x], argTypes := ats }, ty, pos, aft, gd⟩ e w v w' := by
  unfold St
  subst hx
  rw [BigFrame.execOp_builtin, BigFrame.builtin_unsafeSliceData, map1]
  exact run_v h
theorem st_unsafeString (hx : ev e x = a) (hy : ev e y = b) (h : (Builtin.unsafeString_ ats ty #[a, b]).run P w = .ok v w') :
    St P ⟨dst, .call { callee := .builtin .unsafeString, args := #[x, y], argTypes := ats }, ty, pos, aft, gd⟩ e w v w' := by
  unfold St
  subst hx hy
  rw [BigFrame.execOp_builtin, BigFrame.builtin_unsafeString, map2]
  exact run_v h
end
theorem freeze_fro (w : World) (g n : Nat) : Fro (· = g) w (w.freeze ⟨g, 0, none⟩ n) := by
  unfold World.freeze
  split
  · exact Fro.refl _ _
  · refine ⟨rfl, rfl, rfl, by simp, fun k _ hs => ?_⟩
    simp only [Array.getElem?_modify]
    rw [if_neg (fun h => hs h.symm)]
theorem freeze_cells {w : World} {g n : Nat} {cs : Array Value} {T : TypeId} {fz : Nat × Nat} (h : w.heap[g]? = some (.cells cs T fz)) :
    ∃ fz', (w.freeze ⟨g, 0, none⟩ n).heap[g]? = some (.cells cs T fz') := by
  unfold World.freeze
  split
  · exact ⟨fz, h⟩
  · simp only [Array.getElem?_modify, if_pos, h]
    exact ⟨_, rfl⟩

/-- What a writer does to the world: the Builder's own two blocks may change; the buffer may be a new one. -/
def BStep (bb g g' : Nat) (w w' : World) : Prop := Fro (fun k => k = bb ∨ k = g) w w' ∧ (g' = g ∨ w.heap.size ≤ g')

theorem BStep.refl (bb g : Nat) (w : World) : BStep bb g g w w := ⟨Fro.refl _ _, .inl rfl⟩
theorem BStep.trans {bb g g1 g2 : Nat} {a b c : World} (h : BStep bb g g1 a b) (h' : BStep bb g1 g2 b c) : BStep bb g g2 a c := by
  refine ⟨h.1.trans' h'.1 (fun _ _ s => s) (fun k hk s => ?_), ?_⟩
  · rcases s with s | s
    · exact .inl s
    · rcases h.2 with e | e
      · exact .inr (by omega)
      · omega
  · have := h.1.size
    rcases h'.2 with e | e <;> rcases h.2 with e' | e' <;> omega
theorem BStep.ext {bb g g1 : Nat} {a b c : World} (h : BStep bb g g1 a b) (h' : Ext b c) : BStep bb g g1 a c :=
  ⟨h.1.trans' h' (fun _ _ s => s) (fun _ _ s => s.elim), h.2⟩
/-- A block beside the Builder. -/
def Apt (w : World) (bb g b : Nat) (T : TypeId) (cs : List Value) : Prop := Blk w b T cs ∧ b ≠ bb ∧ b ≠ g
theorem Apt.step {w w' : World} {bb g g' b : Nat} {T : TypeId} {cs : List Value} (h : Apt w bb g b T cs) (hs : BStep bb g g' w w') : Apt w' bb g' b T cs := by
  have hlt := h.1.lt
  refine ⟨h.1.fro hs.1 (fun e => e.elim h.2.1 h.2.2), h.2.1, ?_⟩
  rcases hs.2 with e | e
  · rw [e]; exact h.2.2
  · omega
theorem Apt.ext {w w' : World} {bb g b : Nat} {T : TypeId} {cs : List Value} (h : Apt w bb g b T cs) (hx : Ext w w') : Apt w' bb g b T cs := ⟨h.1.ext hx, h.2⟩
/-- A new block. -/
theorem Apt.new {w w' : World} {bb g b : Nat} {T : TypeId} {cs : List Value} {bs : List UInt8} (h : Blk w' b T cs) (hb : w.heap.size ≤ b) (hB : Bld w bb g bs) (hgb : g ≠ b) : Apt w' bb g b T cs :=
  ⟨h, by have := hB.lt; omega, fun e => hgb e.symm⟩
theorem Apt.cell {w : World} {bb g b : Nat} {T : TypeId} {cs : List Value} {v : Value} (h : Apt w bb g b T cs) (i : Nat) (hi : cs[i]? = some v) : w.cell? ⟨b, i, none⟩ = some v := h.1.cell i hi
theorem Apt.cells {w : World} {bb g b : Nat} {T : TypeId} {cs : List Value} (h : Apt w bb g b T cs) : Cells w b 0 cs := h.1.cells
theorem Bld.apt {w : World} {bb g b : Nat} {T : TypeId} {cs : List Value} {bs : List UInt8} (hB : Bld w bb g bs) (hb : Blk w b T cs) (h8 : T ≠ 5) (hT : T ≠ 56) :
    ∃ g1, Bld w bb g1 bs ∧ BStep bb g g1 w w ∧ Apt w bb g1 b T cs := by
  obtain ⟨av, sv, a1, a2, a3, a4, a5⟩ := hB
  have h1 : b ≠ bb := by
    rintro rfl
    unfold Blk at hb a1
    rw [hb] at a1
    injection a1 with a1
    injection a1 with _ a1
    exact hT a1
  by_cases hbs : bs = []
  · have hlt := hb.lt
    have hlt2 := a1.lt
    refine ⟨w.heap.size, ⟨av, sv, a1, a2, ?_, a4, hlt2⟩, ⟨Fro.refl _ _, .inr (Nat.le_refl _)⟩, hb, h1, by omega⟩
    subst hbs
    exact ⟨a3.1, .inl ⟨a4 rfl, rfl⟩⟩
  · refine ⟨g, ⟨av, sv, a1, a2, a3, a4, a5⟩, .refl _ _ _, hb, h1, ?_⟩
    rintro rfl
    rcases a3.2 with ⟨_, h0⟩ | ⟨cap, junk, hv, hk, _, hc⟩
    · exact hbs (List.length_eq_zero_iff.1 h0)
    · unfold Blk at hb hk
      rw [hb] at hk
      injection hk with hk
      injection hk with _ hk
      exact h8 hk
theorem PartsAt.step {w w' : World} {bb g g' : Nat} {v : Value} {ps : List Part} (h : PartsAt (· < bb) w v ps) (hg : bb < g) (hs : BStep bb g g' w w') : PartsAt (· < bb) w' v ps :=
  h.fro hs.1 (fun k hk e => by rcases e with e | e <;> omega)
theorem WaysAt.step {w w' : World} {bb g g' : Nat} {v : Value} {ws : List (List Part)} (h : WaysAt (· < bb) w v ws) (hg : bb < g) (hs : BStep bb g g' w w') : WaysAt (· < bb) w' v ws :=
  h.fro hs.1 (fun k hk e => by rcases e with e | e <;> omega)
theorem RangesAt.step {w w' : World} {bb g g' : Nat} {v : Value} {rs : List (Int × Int)} (h : RangesAt (· < bb) w v rs) (hg : bb < g) (hs : BStep bb g g' w w') : RangesAt (· < bb) w' v rs :=
  Arr.fro h hs.1 (fun k hk e => by rcases e with e | e <;> omega)
theorem Bld.gt {w : World} {bb g : Nat} {bs : List UInt8} (h : Bld w bb g bs) : bb < g := by
  obtain ⟨_, _, _, _, _, _, h⟩ := h
  exact h

theorem take_snoc (s : ByteArray) (k : Nat) (h : k < s.size) : (byts s).take (k + 1) = (byts s).take k ++ [s[k]] := by
  rw [List.take_succ_eq_append_getElem (by simpa using h)]; rfl
theorem escL_append (so a b : List UInt8) : escL so (a ++ b) = escL so a ++ escL so b := by simp [escL]
theorem escL_one (so : List UInt8) (c : UInt8) : escL so [c] = if c ∈ so then [92, c] else [c] := by simp [escL]
theorem escL_len (so : List UInt8) : ∀ l : List UInt8, (escL so l).length ≤ 2 * l.length
  | [] => by simp [escL]
  | c :: l => by
    have h := escL_len so l
    have e : escL so (c :: l) = escL so [c] ++ escL so l := escL_append so [c] l
    rw [e, escL_one, List.length_append]
    split <;> simp <;> omega
theorem BStep.of_ext {bb g : Nat} {a b : World} (h : Ext a b) : BStep bb g g a b := ⟨h.fro, .inl rfl⟩
theorem escL_ge (so : List UInt8) : ∀ l : List UInt8, l.length ≤ (escL so l).length
  | [] => by simp [escL]
  | c :: l => by
    have h := escL_ge so l
    have e : escL so (c :: l) = escL so [c] ++ escL so l := escL_append so [c] l
    rw [e, escL_one, List.length_append]
    split <;> simp <;> omega
theorem escL_take (so l : List UInt8) (k : Nat) : (escL so (l.take k)).length ≤ (escL so l).length := by
  have e := escL_append so (l.take k) (l.drop k)
  rw [List.take_append_drop] at e
  rw [e, List.length_append]; omega
end Go.Proofs.YtndfhicdabdafaaDoor
