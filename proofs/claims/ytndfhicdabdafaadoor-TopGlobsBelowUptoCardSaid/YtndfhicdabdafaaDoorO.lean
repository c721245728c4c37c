/- A net in memory. -/
import Derived.Test.YtndfhicdabdafaaDoorN
import Derived.Test.YtndfhicdabdafaaDoorB
import Derived.Test.YtndfhicdabdafaaDoorKg
namespace Go.Proofs.YtndfhicdabdafaaDoor
open Go Go.RowKit

/-- The blocks that building a net may change: its own. -/
def NetS (base : Nat) (w : World) (k : Nat) : Prop := base ≤ k ∧ ∃ cs T fz, w.heap[k]? = some (.cells cs T fz) ∧ (T = 64 ∨ T = 87 ∨ T = 90)
def NStep (base : Nat) (w w' : World) : Prop := Fro (NetS base w) w w'
theorem NStep.ext {base : Nat} {a b c : World} (h : NStep base a b) (h' : Ext b c) : NStep base a c := h.trans' h' (fun _ _ s => s) (fun _ _ f => f.elim)
theorem NStep.of_ext {base : Nat} {a b : World} (h : Ext a b) : NStep base a b := h.fro
theorem NStep.refl (base : Nat) (a : World) : NStep base a a := Fro.refl _ _
theorem NStep.trans {base : Nat} {a b c : World} (h : NStep base a b) (h' : NStep base b c) : NStep base a c := by
  unfold NStep at *
  refine ⟨h'.os.trans h.os, h'.tape.trans h.tape, h'.output.trans h.output, Nat.le_trans h.size h'.size, fun k hk hn => ?_⟩
  have h1 := h.block k hk hn
  rw [h'.block k (Nat.lt_of_lt_of_le hk h.size) ?_, h1]
  rintro ⟨h2, h3⟩
  rw [h1] at h3
  exact hn ⟨h2, h3⟩
theorem NStep.of_fro {base : Nat} {S : Nat → Prop} {a b : World} (h : Fro S a b) (hs : ∀ k, k < a.heap.size → S k → NetS base a k) : NStep base a b := h.mono hs
theorem Blk.nets {w : World} {b base : Nat} {T : TypeId} {cs : List Value} (h : Blk w b T cs) (hb : base ≤ b) (hT : T = 64 ∨ T = 87 ∨ T = 90) : NetS base w b := by
  unfold Blk at h
  exact ⟨hb, _, _, _, h, hT⟩
theorem Blk.nstep {w w' : World} {b base : Nat} {T : TypeId} {cs : List Value} (h : Blk w b T cs) (hx : NStep base w w') (hT : ¬ (T = 64 ∨ T = 87 ∨ T = 90)) : Blk w' b T cs := by
  refine h.fro hx ?_
  rintro ⟨_, cs', T', fz, h1, h2⟩
  unfold Blk at h
  rw [h] at h1
  injection h1 with h1
  injection h1 with _ h1
  subst h1
  exact hT h2
theorem NStep.low {base n : Nat} {w w' : World} (h : NStep base w w') (hn : n ≤ base) : Fro (fun k => n ≤ k) w w' := h.mono fun k _ s => Nat.le_trans hn s.1
theorem PartsAt.nstep {base n : Nat} {w w' : World} {v : Value} {ps : List Part} (h : PartsAt (· < n) w v ps) (hx : NStep base w w') (hn : n ≤ base) : PartsAt (· < n) w' v ps := h.fro (hx.low hn) (fun k hk e => by omega)
theorem WaysAt.nstep {base n : Nat} {w w' : World} {v : Value} {ps : List (List Part)} (h : WaysAt (· < n) w v ps) (hx : NStep base w w') (hn : n ≤ base) : WaysAt (· < n) w' v ps := h.fro (hx.low hn) (fun k hk e => by omega)
theorem RangesAt.nstep {base n : Nat} {w w' : World} {v : Value} {ps : List (Int × Int)} (h : RangesAt (· < n) w v ps) (hx : NStep base w w') (hn : n ≤ base) : RangesAt (· < n) w' v ps := Arr.fro h (hx.low hn) (fun k hk e => by omega)

def partCells (p : Part) (ra wa : Option Addr) (rc wc : Nat) : List Value := [.int .i64 p.kind, .string p.text, .bool p.neg, .slice ra p.ranges.length rc, .slice wa p.ways.length wc]
/-- The function value fv takes what f says. -/
def TakesAt (w : World) (n lim : Nat) (fv : Value) (f : UInt8 → Bool) : Prop :=
  (∃ b c, b < lim ∧ fv = .func (.func 58) #[] #[.pointer (some ⟨b, 0, none⟩)] ∧ Blk w b 5 [.int .u8 ((c : UInt8).toNat : Int)] ∧ f = (· == c)) ∨
  (∃ b p ra rc wa wc, b < lim ∧ fv = .func (.func 59) #[] #[.pointer (some ⟨b, 0, none⟩)] ∧ Blk w b 33 (partCells p ra wa rc wc) ∧ RangesAt (· < n) w (.slice ra p.ranges.length rc) p.ranges ∧ f = oneB p) ∨
  (∃ b p ra rc wa wc, b < lim ∧ fv = .func (.func 61) #[] #[.pointer (some ⟨b, 0, none⟩)] ∧ Blk w b 33 (partCells p ra wa rc wc) ∧ f = starB p.kind)
def ArwAt (w : World) (n lim : Nat) (a : Arw) (cs : List Value) : Prop :=
  ∃ fv, cs = [.int .i64 (a.to : Int), .bool a.tk.isNone, fv] ∧ one fv = true ∧ (match a.tk with | none => fv = .nilFunc | some f => TakesAt w n lim fv f)
def ArwsAt (w : World) (n lim : Nat) (ars : List Arw) (css : List (List Value)) : Prop := css.length = ars.length ∧ ∀ (i : Nat) (a : Arw), ars[i]? = some a → ∃ cs, css[i]? = some cs ∧ ArwAt w n lim a cs
/-- A state's arrows. -/
def StAt (w : World) (n lim base : Nat) (v : Value) (ars : List Arw) (g : Nat) : Prop :=
  ∃ css, ArwsAt w n lim ars css ∧ Own w 90 3 v ars.length css.flatten g ∧ base ≤ g ∧ (ars = [] → v = .slice none 0 0)
def NetAt (w : World) (n lim base nb : Nat) (N : NetL) (gs : Nat → Nat) : Prop :=
  base ≤ nb ∧ ∃ sv svs gsb, Blk w nb 64 [sv] ∧ Own w 87 1 sv N.length svs gsb ∧ base ≤ gsb ∧ (∀ (i : Nat) (ars : List Arw), N[i]? = some ars → ∃ v, svs[i]? = some v ∧ StAt w n lim base v ars (gs i)) ∧
    (∀ i j, i < N.length → j < N.length → arws N i ≠ [] → arws N j ≠ [] → i ≠ j → gs i ≠ gs j) ∧ N.length ≤ 1099511627

/-- What may be changed while blocks of these types stay. -/
def BoxT (T : TypeId) : Prop := T = 5 ∨ T = 33
instance (T : TypeId) : Decidable (BoxT T) := by unfold BoxT; exact inferInstance
def OffX (X : TypeId → Prop) (n lim : Nat) (w : World) (k : Nat) : Prop := n ≤ k ∧ ∀ cs T fz, w.heap[k]? = some (.cells cs T fz) → ¬ X T ∨ (lim ≤ k ∧ BoxT T)
def NetT (T : TypeId) : Prop := T = 64 ∨ T = 87 ∨ T = 90 ∨ T = 5 ∨ T = 33
theorem Blk.offb {X : TypeId → Prop} {S : Nat → Prop} {n lim : Nat} {w w' : World} {b : Nat} {T : TypeId} {cs : List Value} (h : Blk w b T cs) (hx : Fro S w w') (hS : ∀ k, S k → OffX X n lim w k) (hT : X T) (hb : b < lim) : Blk w' b T cs := by
  refine h.fro hx fun hs => ?_
  unfold Blk at h
  rcases (hS b hs).2 _ _ _ h with h1 | h1
  · exact h1 hT
  · omega
theorem Blk.off {X : TypeId → Prop} {S : Nat → Prop} {n lim : Nat} {w w' : World} {b : Nat} {T : TypeId} {cs : List Value} (h : Blk w b T cs) (hx : Fro S w w') (hS : ∀ k, S k → OffX X n lim w k) (hT : X T ∧ ¬ BoxT T) : Blk w' b T cs := by
  refine h.fro hx fun hs => ?_
  unfold Blk at h
  rcases (hS b hs).2 _ _ _ h with h1 | h1
  · exact h1 hT.1
  · exact hT.2 h1.2
theorem TakesAt.off {X : TypeId → Prop} {S : Nat → Prop} {n lim : Nat} {w w' : World} {fv : Value} {f : UInt8 → Bool} (h : TakesAt w n lim fv f) (hx : Fro S w w') (hS : ∀ k, S k → OffX X n lim w k) (h8 : X 5) (hp : X 33) : TakesAt w' n lim fv f := by
  rcases h with ⟨b, c, hb, h1, h2, h3⟩ | ⟨b, p, ra, rc, wa, wc, hb, h1, h2, h3, h4⟩ | ⟨b, p, ra, rc, wa, wc, hb, h1, h2, h3⟩
  · exact .inl ⟨b, c, hb, h1, h2.offb hx hS h8 hb, h3⟩
  · exact .inr (.inl ⟨b, p, ra, rc, wa, wc, hb, h1, h2.offb hx hS hp hb, Arr.fro h3 hx (fun k hk hs => by have := (hS k hs).1; omega), h4⟩)
  · exact .inr (.inr ⟨b, p, ra, rc, wa, wc, hb, h1, h2.offb hx hS hp hb, h3⟩)
theorem ArwAt.off {X : TypeId → Prop} {S : Nat → Prop} {n lim : Nat} {w w' : World} {a : Arw} {cs : List Value} (h : ArwAt w n lim a cs) (hx : Fro S w w') (hS : ∀ k, S k → OffX X n lim w k) (h8 : X 5) (hp : X 33) : ArwAt w' n lim a cs := by
  obtain ⟨fv, h1, h2, h3⟩ := h
  refine ⟨fv, h1, h2, ?_⟩
  cases hk : a.tk with
  | none => rw [hk] at h3; exact h3
  | some f => rw [hk] at h3; exact TakesAt.off h3 hx hS h8 hp
theorem ArwsAt.off {X : TypeId → Prop} {S : Nat → Prop} {n lim : Nat} {w w' : World} {ars : List Arw} {css : List (List Value)} (h : ArwsAt w n lim ars css) (hx : Fro S w w') (hS : ∀ k, S k → OffX X n lim w k) (h8 : X 5) (hp : X 33) : ArwsAt w' n lim ars css :=
  ⟨h.1, fun i a ha => let ⟨cs, h5, h6⟩ := h.2 i a ha; ⟨cs, h5, h6.off hx hS h8 hp⟩⟩
theorem Own.off {X : TypeId → Prop} {S : Nat → Prop} {n lim : Nat} {w w' : World} {T sz m g : Nat} {v : Value} {xs : List Value} (h : Own w T sz v m xs g) (hx : Fro S w w') (hS : ∀ k, S k → OffX X n lim w k) (hT : X T ∧ ¬ BoxT T) : Own w' T sz v m xs g := by
  obtain ⟨h1, h2⟩ := h
  refine ⟨h1, ?_⟩
  rcases h2 with h2 | ⟨cap, junk, hv, hb, hr⟩
  · exact .inl h2
  · exact .inr ⟨cap, junk, hv, hb.off hx hS hT, hr⟩
theorem StAt.off {X : TypeId → Prop} {S : Nat → Prop} {n lim base g : Nat} {w w' : World} {v : Value} {ars : List Arw} (h : StAt w n lim base v ars g) (hx : Fro S w w') (hS : ∀ k, S k → OffX X n lim w k) (h8 : X 5) (hp : X 33) (ha : X 90 ∧ ¬ BoxT 90) : StAt w' n lim base v ars g := by
  obtain ⟨css, h1, h2, h3⟩ := h
  exact ⟨css, h1.off hx hS h8 hp, h2.off hx hS ha, h3⟩
/-- The arrows of another state. -/
theorem StAt.apart {X : TypeId → Prop} {S : Nat → Prop} {n lim base g : Nat} {w w' : World} {v : Value} {ars : List Arw} (h : StAt w n lim base v ars g) (hx : Fro S w w') (hS : ∀ k, S k → OffX X n lim w k) (h8 : X 5) (hp : X 33) (hg : ars ≠ [] → ¬ S g) : StAt w' n lim base v ars g := by
  obtain ⟨css, h1, h2, h3, h4⟩ := h
  refine ⟨css, h1.off hx hS h8 hp, ?_, h3, h4⟩
  rcases Decidable.em (ars.length = 0) with e | e
  · have e' : ars = [] := List.length_eq_zero_iff.1 e
    subst e'
    exact ⟨h2.1, .inl ⟨h4 rfl, rfl⟩⟩
  · exact h2.fro hx (hg (fun e' => e (by rw [e']; rfl)))
theorem NetAt.off {S : Nat → Prop} {n lim base nb : Nat} {w w' : World} {N : NetL} {gs : Nat → Nat} (h : NetAt w n lim base nb N gs) (hx : Fro S w w') (hS : ∀ k, S k → OffX NetT n lim w k) : NetAt w' n lim base nb N gs := by
  obtain ⟨h0, sv, svs, gsb, h1, h2, h3, h4, h5⟩ := h
  exact ⟨h0, sv, svs, gsb, h1.off hx hS (by simp [NetT, BoxT]), h2.off hx hS (by simp [NetT, BoxT]), h3, fun i ars ha => let ⟨v, h6, h7⟩ := h4 i ars ha; ⟨v, h6, h7.off hx hS (by simp [NetT]) (by simp [NetT]) (by simp [NetT, BoxT])⟩, h5⟩
theorem NetAt.ext {n lim base nb : Nat} {w w' : World} {N : NetL} {gs : Nat → Nat} (h : NetAt w n lim base nb N gs) (hx : Ext w w') : NetAt w' n lim base nb N gs := h.off hx fun _ f => f.elim
/-- The block of an own slice is of its type, or not yet there. -/
theorem Own.tidy {w : World} {T sz m g base : Nat} {v : Value} {xs : List Value} (h : Own w T sz v m xs g) (hg : base ≤ g) (hb : base ≤ w.heap.size) :
    ∃ g1, Own w T sz v m xs g1 ∧ base ≤ g1 ∧ ((g1 = g ∧ v ≠ .slice none 0 0) ∨ (m = 0 ∧ g1 = w.heap.size)) ∧ ∀ k, k < w.heap.size → k = g1 → ∃ cs fz, w.heap[k]? = some (.cells cs T fz) := by
  obtain ⟨h1, h2⟩ := h
  rcases h2 with ⟨h2, h3⟩ | ⟨cap, junk, hv, hbk, hr⟩
  · exact ⟨w.heap.size, ⟨h1, .inl ⟨h2, h3⟩⟩, hb, .inr ⟨h3, rfl⟩, fun k hk e => by omega⟩
  · refine ⟨g, ⟨h1, .inr ⟨cap, junk, hv, hbk, hr⟩⟩, hg, .inl ⟨rfl, by rw [hv]; simp⟩, fun k hk e => ?_⟩
    subst e
    unfold Blk at hbk
    exact ⟨_, _, hbk⟩
theorem offT {w : World} {g n lim base : Nat} {T : TypeId} (hg : base ≤ g) (hn : n ≤ base) (ht : ∀ k, k < w.heap.size → k = g → ∃ cs fz, w.heap[k]? = some (.cells cs T fz)) : ∀ k, k = g → OffX (· ≠ T) n lim w k := by
  rintro k rfl
  refine ⟨by omega, fun cs T' fz h => .inl fun hne => ?_⟩
  have hlt : k < w.heap.size := by
    rcases Nat.lt_or_ge k w.heap.size with h1 | h1
    · exact h1
    · rw [Array.getElem?_eq_none h1] at h; cases h
  obtain ⟨cs', fz', h'⟩ := ht k hlt rfl
  rw [h'] at h
  injection h with h
  injection h with _ h
  exact hne h.symm
theorem stepT {w w' : World} {g base : Nat} {T : TypeId} (hx : Fro (· = g) w w') (hg : base ≤ g) (hT : T = 64 ∨ T = 87 ∨ T = 90) (ht : ∀ k, k < w.heap.size → k = g → ∃ cs fz, w.heap[k]? = some (.cells cs T fz)) : NStep base w w' := by
  refine NStep.of_fro hx fun k hk e => ?_
  have e' : k = g := e
  obtain ⟨cs, fz, h⟩ := ht k hk e'
  exact ⟨by omega, cs, T, fz, h, hT⟩
theorem TakesAt.mono {w : World} {n lim lim' : Nat} {fv : Value} {f : UInt8 → Bool} (h : TakesAt w n lim fv f) (hl : lim ≤ lim') : TakesAt w n lim' fv f := by
  rcases h with ⟨b, c, hb, h⟩ | ⟨b, p, ra, rc, wa, wc, hb, h⟩ | ⟨b, p, ra, rc, wa, wc, hb, h⟩
  · exact .inl ⟨b, c, by omega, h⟩
  · exact .inr (.inl ⟨b, p, ra, rc, wa, wc, by omega, h⟩)
  · exact .inr (.inr ⟨b, p, ra, rc, wa, wc, by omega, h⟩)
theorem ArwAt.mono {w : World} {n lim lim' : Nat} {a : Arw} {cs : List Value} (h : ArwAt w n lim a cs) (hl : lim ≤ lim') : ArwAt w n lim' a cs := by
  obtain ⟨fv, h1, h2, h3⟩ := h
  refine ⟨fv, h1, h2, ?_⟩
  cases hk : a.tk with
  | none => rw [hk] at h3; exact h3
  | some f => rw [hk] at h3; exact TakesAt.mono h3 hl
theorem NetAt.mono {w : World} {n lim lim' base nb : Nat} {N : NetL} {gs : Nat → Nat} (h : NetAt w n lim base nb N gs) (hl : lim ≤ lim') : NetAt w n lim' base nb N gs := by
  obtain ⟨h0, sv, svs, gsb, h1, h2, h3, h4, h5⟩ := h
  refine ⟨h0, sv, svs, gsb, h1, h2, h3, fun i ars ha => ?_, h5⟩
  obtain ⟨v, h6, css, h7, h8⟩ := h4 i ars ha
  exact ⟨v, h6, css, ⟨h7.1, fun i a ha => let ⟨cs, h9, h10⟩ := h7.2 i a ha; ⟨cs, h9, h10.mono hl⟩⟩, h8⟩
/-- A net whose boxes all lie there. -/
def Net (w : World) (n base nb : Nat) (N : NetL) : Prop := ∃ gs, NetAt w n w.heap.size base nb N gs
theorem NetAt.net {w : World} {n lim base nb : Nat} {N : NetL} {gs : Nat → Nat} (h : NetAt w n lim base nb N gs) (hl : lim ≤ w.heap.size) : Net w n base nb N := ⟨gs, h.mono hl⟩
theorem Net.ext {w w' : World} {n base nb : Nat} {N : NetL} (h : Net w n base nb N) (hx : Ext w w') : Net w' n base nb N := let ⟨_, h1⟩ := h; (h1.ext hx).net hx.size
end Go.Proofs.YtndfhicdabdafaaDoor
