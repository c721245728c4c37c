/- Slices of Bools; how far a pass has come. -/
import Derived.Test.YtndfhicdabdafaaDoorF
import Derived.Test.YtndfhicdabdafaaDoorKc
import Derived.Test.YtndfhicdabdafaaDoorKt
import Derived.Test.YtndfhicdabdafaaDoorKd
import Derived.Laws.MakeOwn
namespace Go.Proofs.YtndfhicdabdafaaDoor
open Go Go.RowKit

section
variable {P : Program} {e : Env} {w w' : World} {dst : Option Tmp} {ty t : TypeId} {pos : String} {aft : Array Edge} {g : Option (Nat × Bool)} {x y : Operand}
theorem i64_byte (c : UInt8) : IntKind.i64.wrap (c.toNat : Int) = (c.toNat : Int) := by
  have := c.toNat_lt
  exact wrap_in (by omega) (by omega)
theorem st_byte {c : UInt8} {ts td : TypeId} (hs : ∃ d, P.underlying ts = some d) (hu : P.underlying td = some (.int .i64)) (hx : ev e x = .int .u8 (c.toNat : Int)) :
    St P ⟨dst, .convert ts td x, ty, pos, aft, g⟩ e w (.int .i64 (c.toNat : Int)) w := by
  have h := st_convi (w := w) (dst := dst) (ty := ty) (pos := pos) (aft := aft) (g := g) hs hu hx
  rw [i64_byte] at h
  exact h
theorem made_bools (n : Nat) : madeCells (Value.bool false).cells n = ((List.replicate n false).map Value.bool).toArray := by
  apply Array.toList_inj.1
  simp only [madeCells, Value.cells]
  apply List.ext_getElem
  · simp
  · intro i h1 h2
    simp at h1 ⊢
    simp [Nat.mod_one]
theorem ef_makeB {el n by' : Nat} (hu : P.underlying t = some (.slice el)) (hz : TI P el (.bool false) 1 by') (hb : by' ≤ 16) (hx : ev e x = .int .i64 n) (hy : ev e y = .int .i64 n) (hn : n ≤ 1099511627776) :
    ∃ v w', St P ⟨dst, .makeSlice t x y, ty, pos, aft, g⟩ e w v w' ∧ ∃ g', v = .slice (some ⟨g', 0, none⟩) n n ∧ w.heap.size ≤ g' ∧ Blk w' g' el ((List.replicate n false).map Value.bool) ∧ Ext w w' := by
  obtain ⟨i, h1, h2, h3, h4⟩ := hz
  have hbb : (i.bytes : Int) * (n : Int) ≤ 281474976710656 := by
    have h : i.bytes * n ≤ 16 * 1099511627776 := Nat.mul_le_mul (by omega) hn
    have h' : ((i.bytes * n : Nat) : Int) ≤ 281474976710656 := by omega
    rwa [Int.natCast_mul] at h'
  refine ⟨_, _, ?_, w.heap.size, rfl, Nat.le_refl _, blk_push _ _ _, ext_push _ _⟩
  unfold St
  refine run_v (s := Instr.makeSlice t (ev e x) (ev e y)) ?_
  rw [hx, hy]
  have hr := run_make (P := P) w t el i (.bool false) hu h1 h2 .i64 .i64 n n (by omega) (Int.le_refl _) hbb (by omega)
  simp only [Int.toNat_natCast, h3, Nat.mul_one] at hr
  rw [hr, made_bools]
  rfl
end

/-- A slice of Bools that fills its block. -/
def Bo (w : World) (v : Value) (bs : List Bool) : Prop := ∃ g, v = .slice (some ⟨g, 0, none⟩) bs.length bs.length ∧ Blk w g 4 (bs.map Value.bool)
theorem Bo.ext {w w' : World} {v : Value} {bs : List Bool} (h : Bo w v bs) (hx : Ext w w') : Bo w' v bs := let ⟨g, h1, h2⟩ := h; ⟨g, h1, h2.ext hx⟩
theorem mapb {l : List Bool} {k : Nat} (h : k < l.length) : (l.map Value.bool)[0 + k * 1]? = some (.bool (l.getD k false)) := by
  rw [show 0 + k * 1 = k from by omega, List.getElem?_map, List.getD_eq_getElem?_getD, List.getElem?_eq_getElem h]
  rfl
theorem mapb_set {l : List Bool} {k : Nat} {b : Bool} : (l.map Value.bool).set (0 + k * 1) (.bool b) = (l.set k b).map Value.bool := by
  rw [show 0 + k * 1 = k from by omega, List.map_set]

/-- The pass has taken the first k places into account. -/
def PasK (L : List UInt8 → Prop) (t : ByteArray) (fr to : List Bool) (k : Nat) : Prop :=
  to.length = fr.length ∧ ∀ j, j ≤ t.size → (to.getD j false = true ↔ ∃ i, i < k ∧ i ≤ j ∧ fr.getD i false = true ∧ L (seg t i j))
theorem PasK.zero {L : List UInt8 → Prop} {t : ByteArray} {fr : List Bool} : PasK L t fr (List.replicate fr.length false) 0 := by
  refine ⟨by simp, fun j hj => ⟨fun h => ?_, fun ⟨i, h, _⟩ => by omega⟩⟩
  exfalso
  rw [List.getD_eq_getElem?_getD, List.getElem?_replicate] at h
  split at h <;> cases h
theorem PasK.done {L : List UInt8 → Prop} {t : ByteArray} {fr to : List Bool} {k : Nat} (h : PasK L t fr to k) (hk : t.size < k) : Pas L t fr to :=
  ⟨h.1, fun j hj => (h.2 j hj).trans ⟨fun ⟨i, _, h2, h3⟩ => ⟨i, h2, h3⟩, fun ⟨i, h2, h3⟩ => ⟨i, by omega, h2, h3⟩⟩⟩
theorem PasK.hit {L : List UInt8 → Prop} {t : ByteArray} {fr to : List Bool} {k j0 : Nat} (h : PasK L t fr to k) (hf : fr.getD k false = true) (hj : j0 < fr.length) (hkj : k ≤ j0) (hL : ∀ j, j ≤ t.size → k ≤ j → (L (seg t k j) ↔ j = j0)) :
    PasK L t fr (to.set j0 true) (k + 1) := by
  refine ⟨by simp [h.1], fun j hjs => ?_⟩
  rw [getD_set _ _ _ _ (by rw [h.1]; exact hj)]
  by_cases e : j = j0
  · subst e
    rw [if_pos rfl]
    exact ⟨fun _ => ⟨k, by omega, hkj, hf, (hL j hjs hkj).2 rfl⟩, fun _ => rfl⟩
  · rw [if_neg e, h.2 j hjs]
    constructor
    · rintro ⟨i, h1, h2⟩; exact ⟨i, by omega, h2⟩
    · rintro ⟨i, h1, h2, h3, h4⟩
      by_cases e2 : i = k
      · subst e2; exact absurd ((hL j hjs h2).1 h4) e
      · exact ⟨i, by omega, h2, h3, h4⟩
theorem PasK.miss {L : List UInt8 → Prop} {t : ByteArray} {fr to : List Bool} {k : Nat} (h : PasK L t fr to k) (hL : fr.getD k false = true → ∀ j, j ≤ t.size → k ≤ j → ¬ L (seg t k j)) : PasK L t fr to (k + 1) := by
  refine ⟨h.1, fun j hjs => ?_⟩
  rw [h.2 j hjs]
  constructor
  · rintro ⟨i, h1, h2⟩; exact ⟨i, by omega, h2⟩
  · rintro ⟨i, h1, h2, h3, h4⟩
    by_cases e2 : i = k
    · subst e2; exact absurd h4 (hL h3 j hjs h2)
    · exact ⟨i, by omega, h2, h3, h4⟩

theorem Lp_text {p : Part} (hk : p.kind = 1) (l : List UInt8) : Lp p l ↔ l = byts p.text := by
  rw [Lp_eq, hk]
  simp
theorem Lp_onep {p : Part} (hk : p.kind = 2 ∨ p.kind = 5) (l : List UInt8) : Lp p l ↔ ∃ c, l = [c] ∧ oneB p c = true := by
  rw [Lp_eq]
  rcases hk with hk | hk <;> rw [hk] <;> simp
theorem Lp_star {p : Part} (hk : p.kind = 3 ∨ p.kind = 4) (l : List UInt8) : Lp p l ↔ ∀ c ∈ l, starB p.kind c = true := by
  rw [Lp_eq]
  rcases hk with hk | hk <;> rw [hk] <;> simp
theorem Lp_ways {p : Part} (hk : p.kind = 6) (l : List UInt8) : Lp p l ↔ LW p.ways l := by
  rw [Lp_eq, hk]
  simp
theorem Lp_none {p : Part} (hk : p.kind < 1 ∨ 6 < p.kind) (l : List UInt8) : ¬ Lp p l := by
  rw [Lp_eq]
  rintro (h | h | h | h) <;> omega
theorem Fro.ext {S : Nat → Prop} {a b c : World} (h : Fro S a b) (h' : Ext b c) : Fro S a c := h.trans' h' (fun _ _ s => s) (fun _ _ f => f.elim)
theorem Pas.none {L : List UInt8 → Prop} {t : ByteArray} {fr : List Bool} (h : ∀ l, ¬ L l) : Pas L t fr (List.replicate fr.length false) := by
  refine ⟨by simp, fun j hj => ⟨fun h => ?_, fun ⟨i, _, _, h2⟩ => absurd h2 (h _)⟩⟩
  exfalso
  rw [List.getD_eq_getElem?_getD, List.getElem?_replicate] at h
  split at h <;> cases h
theorem Pas.or {L L' : List UInt8 → Prop} {t : ByteArray} {fr a b c : List Bool} (h : Pas L t fr a) (h' : Pas L' t fr b) (hl : c.length = fr.length) (hc : ∀ j, j ≤ t.size → c.getD j false = (a.getD j false || b.getD j false)) : Pas (fun l => L l ∨ L' l) t fr c := by
  refine ⟨hl, fun j hj => ?_⟩
  rw [hc j hj, Bool.or_eq_true, h.2 j hj, h'.2 j hj]
  constructor
  · rintro (⟨i, h1, h2, h3⟩ | ⟨i, h1, h2, h3⟩)
    · exact ⟨i, h1, h2, .inl h3⟩
    · exact ⟨i, h1, h2, .inr h3⟩
  · rintro ⟨i, h1, h2, h3 | h3⟩
    · exact .inl ⟨i, h1, h2, h3⟩
    · exact .inr ⟨i, h1, h2, h3⟩
theorem LW_take (ws : List (List Part)) (k : Nat) (h : k < ws.length) (l : List UInt8) : (LW (ws.take k) l ∨ LP ws[k] l) ↔ LW (ws.take (k + 1)) l := by
  rw [List.take_succ_eq_append_getElem h, LW_iff, LW_iff]
  constructor
  · rintro (⟨x, h1, h2⟩ | h1)
    · exact ⟨x, List.mem_append.2 (.inl h1), h2⟩
    · exact ⟨ws[k], List.mem_append.2 (.inr (List.mem_singleton.2 rfl)), h1⟩
  · rintro ⟨x, h1, h2⟩
    rcases List.mem_append.1 h1 with h1 | h1
    · exact .inl ⟨x, h1, h2⟩
    · rw [List.mem_singleton] at h1
      subst h1
      exact .inr h2

/-- A pass over stars that stands before place k. -/
def Sta (p : Part) (t : ByteArray) (fr : List Bool) (k : Nat) (to : List Bool) (on : Bool) : Prop :=
  to.length = fr.length ∧ (∀ j, j < k → j ≤ t.size → (to.getD j false = true ↔ ∃ i, i ≤ j ∧ fr.getD i false = true ∧ ∀ c ∈ seg t i j, starB p.kind c = true)) ∧
    (k ≤ t.size → (on = true ↔ ∃ i, i < k ∧ fr.getD i false = true ∧ ∀ c ∈ seg t i k, starB p.kind c = true))
theorem Sta.zero {p : Part} {t : ByteArray} {fr : List Bool} : Sta p t fr 0 (List.replicate fr.length false) false :=
  ⟨by simp, fun j h => absurd h (by omega), fun _ => ⟨fun h => (by cases h), fun ⟨i, h, _⟩ => absurd h (by omega)⟩⟩
theorem Sta.step {p : Part} {t : ByteArray} {fr to : List Bool} {k : Nat} {on X on2 : Bool} (h : Sta p t fr k to on) (hk : k ≤ t.size) (hkf : k < fr.length) (hX : X = (on || fr.getD k false)) (h2 : ∀ hk : k < t.size, on2 = (X && starB p.kind t[k])) :
    Sta p t fr (k + 1) (to.set k X) on2 := by
  obtain ⟨h0, h1, h3⟩ := h
  have hXi : X = true ↔ ∃ i, i ≤ k ∧ fr.getD i false = true ∧ ∀ c ∈ seg t i k, starB p.kind c = true := by
    rw [hX, Bool.or_eq_true, h3 hk]
    constructor
    · rintro (⟨i, a, b⟩ | b)
      · exact ⟨i, by omega, b⟩
      · exact ⟨k, Nat.le_refl _, b, by rw [seg_self]; intro c hc; cases hc⟩
    · rintro ⟨i, a, b, c⟩
      by_cases e : i = k
      · subst e; exact .inr b
      · exact .inl ⟨i, by omega, b, c⟩
  refine ⟨by simp [h0], fun j hj hjs => ?_, fun hks => ?_⟩
  · rw [getD_set _ _ _ _ (by rw [h0]; exact hkf)]
    by_cases e : j = k
    · subst e; rw [if_pos rfl]; exact hXi
    · rw [if_neg e]; exact h1 j (by omega) hjs
  · rw [h2 (by omega), Bool.and_eq_true, hXi]
    constructor
    · rintro ⟨⟨i, a, b, c⟩, d⟩
      refine ⟨i, by omega, b, ?_⟩
      rw [seg_snoc t i k (by omega) a]
      intro x hx
      rcases List.mem_append.1 hx with hx | hx
      · exact c x hx
      · rw [List.mem_singleton] at hx; subst hx; exact d
    · rintro ⟨i, a, b, c⟩
      rw [seg_snoc t i k (by omega) (by omega)] at c
      exact ⟨⟨i, by omega, b, fun x hx => c x (List.mem_append_left _ hx)⟩, c _ (List.mem_append_right _ (List.mem_singleton.2 rfl))⟩
theorem Sta.done {p : Part} {t : ByteArray} {fr to : List Bool} {k : Nat} {on : Bool} (h : Sta p t fr k to on) (hk : t.size < k) (hp : p.kind = 3 ∨ p.kind = 4) : Pas (Lp p) t fr to :=
  ⟨h.1, fun j hj => (h.2.1 j (by omega) hj).trans ⟨fun ⟨i, a, b, c⟩ => ⟨i, a, b, (Lp_star hp _).2 c⟩, fun ⟨i, a, b, c⟩ => ⟨i, a, b, (Lp_star hp _).1 c⟩⟩⟩
theorem byte_eq (c : UInt8) (n : Nat) (hn : n < 256) : (c.toNat : Int) = (n : Nat) ↔ c = n.toUInt8 := by
  rw [← UInt8.toNat_inj]
  have : (n.toUInt8).toNat = n := by simp; omega
  rw [this]
  omega
end Go.Proofs.YtndfhicdabdafaaDoor
