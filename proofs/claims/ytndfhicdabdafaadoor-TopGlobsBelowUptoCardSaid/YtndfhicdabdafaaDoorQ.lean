/- Sets of states, and what can stand of a path behind them, in plain words of Lean. -/
import Derived.Test.YtndfhicdabdafaaDoorN
namespace Go.Proofs.YtndfhicdabdafaaDoor
open Go Go.RowKit

section
variable {α : Type} [DecidableEq α]
/-- How many of U are not there. -/
def out (U ks : List α) : Nat := U.countP (fun q => decide (q ∉ ks))
theorem out_le (U ks : List α) : out U ks ≤ U.length := List.countP_le_length
theorem out_drop {U ks ks' : List α} {a : α} (hU : a ∈ U) (ha : a ∉ ks) (h : ∀ x, x ∈ ks' ↔ x = a ∨ x ∈ ks) : out U ks' + 1 ≤ out U ks := by
  have key : ∀ l : List α, (a ∈ l → l.countP (fun q => decide (q ∉ ks')) + 1 ≤ l.countP (fun q => decide (q ∉ ks))) ∧ l.countP (fun q => decide (q ∉ ks')) ≤ l.countP (fun q => decide (q ∉ ks)) := by
    intro l
    induction l with
    | nil => exact ⟨fun h => (by cases h), Nat.le_refl _⟩
    | cons x l ih =>
      simp only [List.countP_cons]
      by_cases hx : x = a
      · subst hx
        have e1 : decide (x ∉ ks') = false := decide_eq_false (fun hn => hn ((h x).2 (.inl rfl)))
        have e2 : decide (x ∉ ks) = true := decide_eq_true ha
        rw [e1, e2]
        have := ih.2
        simp only [if_true, Bool.false_eq_true, if_false]
        exact ⟨fun _ => by omega, by omega⟩
      · have e1 : decide (x ∉ ks') = decide (x ∉ ks) := decide_eq_decide.2 (not_congr ((h x).trans ⟨fun h => h.resolve_left hx, .inr⟩))
        rw [e1]
        refine ⟨fun hm => ?_, by have := ih.2; omega⟩
        have := ih.1 ((List.mem_cons.1 hm).resolve_left (fun e => hx e.symm))
        omega
  exact (key U).1 hU
theorem nodup_len {U : List α} : ∀ {ks : List α}, ks.Nodup → (∀ a ∈ ks, a ∈ U) → ks.length + out U ks ≤ U.length
  | [], _, _ => by have := out_le U ([] : List α); simpa using this
  | a :: ks, hn, h => by
    have hn' := List.nodup_cons.1 hn
    have h1 := nodup_len hn'.2 (fun x hx => h x (List.mem_cons_of_mem _ hx))
    have h2 := out_drop (ks' := a :: ks) (h a List.mem_cons_self) hn'.1 (fun x => List.mem_cons)
    rw [List.length_cons]
    omega
end

/-! ### closures -/

/-- R is closed under arrows that take nothing. -/
def Shut (N : NetL) (R : Nat → Prop) : Prop := ∀ q a, R q → a ∈ arws N q → a.tk = none → R a.to
theorem Shut.run {N : NetL} {R : Nat → Prop} (h : Shut N R) {s q : Nat} {l : List UInt8} (r : Run N s l q) : l = [] → R s → R q := by
  induction r with
  | nil => exact fun _ h => h
  | free _ ha hk ih => exact fun e hs => h _ _ (ih e hs) ha hk
  | take _ _ _ _ _ => exact fun e => by simp at e
/-- A closure under way: ks are the states so far, td those of them whose arrows are still to be looked at. -/
structure Clo (N : NetL) (ks0 ks td : List Nat) : Prop where
  old : ∀ q ∈ ks0, q ∈ ks
  lt : ∀ q ∈ ks, q < N.length
  from_ : ∀ q ∈ ks, ∃ s ∈ ks0, Run N s [] q
  sub : ∀ q ∈ td, q ∈ ks
  shut : ∀ q a, q ∈ ks → q ∉ td → a ∈ arws N q → a.tk = none → a.to ∈ ks
theorem Clo.start {N : NetL} {ks td : List Nat} (h : ∀ q ∈ ks, q < N.length) (ht : ∀ q, q ∈ td ↔ q ∈ ks) : Clo N ks ks td :=
  ⟨fun _ h => h, h, fun q hq => ⟨q, hq, .nil⟩, fun q hq => (ht q).1 hq, fun q a hq hn _ _ => absurd ((ht q).2 hq) hn⟩
theorem Clo.done {N : NetL} {ks0 ks : List Nat} (h : Clo N ks0 ks []) (q : Nat) : q ∈ ks ↔ ∃ s ∈ ks0, Run N s [] q :=
  ⟨h.from_ q, fun ⟨_, hs, r⟩ => Shut.run (R := (· ∈ ks)) (fun q a hq ha hk => h.shut q a hq (by simp) ha hk) r rfl (h.old _ hs)⟩
/-- State s is taken from td; the first j of its arrows have been looked at. -/
structure CloA (N : NetL) (ks0 ks td : List Nat) (s j : Nat) : Prop where
  old : ∀ q ∈ ks0, q ∈ ks
  lt : ∀ q ∈ ks, q < N.length
  from_ : ∀ q ∈ ks, ∃ s ∈ ks0, Run N s [] q
  sub : ∀ q ∈ td, q ∈ ks
  own : s ∈ ks
  shut : ∀ q a, q ∈ ks → q ≠ s → q ∉ td → a ∈ arws N q → a.tk = none → a.to ∈ ks
  seen : ∀ a ∈ (arws N s).take j, a.tk = none → a.to ∈ ks
theorem Clo.take {N : NetL} {ks0 ks td : List Nat} {s : Nat} (h : Clo N ks0 ks (td ++ [s])) : CloA N ks0 ks td s 0 :=
  ⟨h.old, h.lt, h.from_, fun q hq => h.sub q (List.mem_append_left _ hq), h.sub s (by simp), fun q a hq hne hn ha hk => h.shut q a hq (by simp [hn, hne]) ha hk, fun a ha => by simp at ha⟩
theorem CloA.done {N : NetL} {ks0 ks td : List Nat} {s j : Nat} (h : CloA N ks0 ks td s j) (hj : (arws N s).length ≤ j) : Clo N ks0 ks td := by
  refine ⟨h.old, h.lt, h.from_, h.sub, fun q a hq hn ha hk => ?_⟩
  by_cases e : q = s
  · subst e
    exact h.seen a (by rw [List.take_of_length_le hj]; exact ha) hk
  · exact h.shut q a hq e hn ha hk
theorem CloA.skip {N : NetL} {ks0 ks td : List Nat} {s j : Nat} (h : CloA N ks0 ks td s j) (hj : j < (arws N s).length) (hk : (arws N s)[j].tk = none → (arws N s)[j].to ∈ ks) : CloA N ks0 ks td s (j + 1) := by
  refine { h with seen := fun a ha hk' => ?_ }
  rw [List.take_succ_eq_append_getElem hj] at ha
  rcases List.mem_append.1 ha with ha | ha
  · exact h.seen a ha hk'
  · rw [List.mem_singleton] at ha
    subst ha
    exact hk hk'
theorem CloA.add {N : NetL} {ks0 ks td : List Nat} {s j : Nat} (hv : Val N) (h : CloA N ks0 ks td s j) (hj : j < (arws N s).length) (hk : (arws N s)[j].tk = none) : CloA N ks0 (ks ++ [(arws N s)[j].to]) (td ++ [(arws N s)[j].to]) s (j + 1) := by
  have hm : (arws N s)[j] ∈ arws N s := List.getElem_mem hj
  refine ⟨fun q hq => List.mem_append_left _ (h.old q hq), fun q hq => ?_, fun q hq => ?_, fun q hq => ?_, List.mem_append_left _ h.own, fun q a hq hne hn ha hk' => ?_, fun a ha hk' => ?_⟩
  · rcases List.mem_append.1 hq with hq | hq
    · exact h.lt q hq
    · rw [List.mem_singleton] at hq; subst hq; exact hv _ _ hm
  · rcases List.mem_append.1 hq with hq | hq
    · exact h.from_ q hq
    · rw [List.mem_singleton] at hq; subst hq
      obtain ⟨s0, h1, h2⟩ := h.from_ s h.own
      exact ⟨s0, h1, .free h2 hm hk⟩
  · rcases List.mem_append.1 hq with hq | hq
    · exact List.mem_append_left _ (h.sub q hq)
    · exact List.mem_append_right _ hq
  · rw [List.mem_append, not_or] at hn
    rcases List.mem_append.1 hq with hq | hq
    · exact List.mem_append_left _ (h.shut q a hq hne hn.1 ha hk')
    · exact absurd hq hn.2
  · rw [List.take_succ_eq_append_getElem hj] at ha
    rcases List.mem_append.1 ha with ha | ha
    · exact List.mem_append_left _ (h.seen a ha hk')
    · rw [List.mem_singleton] at ha
      subst ha
      exact List.mem_append_right _ (List.mem_singleton.2 rfl)

/-! ### what stands of a name -/

def grw (nm : Nat) (c : UInt8) : Option Nat := if c = 47 then (if nm = 3 then some 0 else none) else if c = 46 ∧ nm ≠ 3 then some (nm + 1) else some 3
def Gr : Nat → List UInt8 → Nat → Prop
  | nm, [], k => nm = k
  | nm, c :: l, k => ∃ m, grw nm c = some m ∧ Gr m l k
theorem grw_le {nm m : Nat} {c : UInt8} (hn : nm ≤ 3) (h : grw nm c = some m) : m ≤ 3 := by
  unfold grw at h
  split at h
  · split at h
    · injection h with h; omega
    · cases h
  · split at h
    · rename_i h2; injection h with h; have := h2.2; omega
    · injection h with h; omega
theorem Gr_append : ∀ (a b : List UInt8) (nm k : Nat), Gr nm (a ++ b) k ↔ ∃ m, Gr nm a m ∧ Gr m b k
  | [], b, nm, k => by simp [Gr]
  | c :: a, b, nm, k => by
    simp only [List.cons_append, Gr, Gr_append a b]
    constructor
    · rintro ⟨m, h1, m2, h2, h3⟩; exact ⟨m2, ⟨m, h1, h2⟩, h3⟩
    · rintro ⟨m2, ⟨m, h1, h2⟩, h3⟩; exact ⟨m, h1, m2, h2, h3⟩
theorem Gr_one (nm k : Nat) (c : UInt8) : Gr nm [c] k ↔ grw nm c = some k := by simp [Gr]
/-- What can stand behind a directory's path: names. -/
def Tail (z : List UInt8) : Prop := Gr 0 z 3 ∧ ∀ c ∈ z, c ≠ 0

/-- From one of ks, over bytes that are in order, to state q with so much of a name. -/
def Vis (N : NetL) (ks : List Nat) (p : Nat × Nat) : Prop := ∃ s ∈ ks, ∃ z, Run N s z p.1 ∧ Gr 0 z p.2 ∧ ∀ c ∈ z, c ≠ 0
theorem Vis.start {N : NetL} {ks : List Nat} {s : Nat} (h : s ∈ ks) : Vis N ks (s, 0) := ⟨s, h, [], .nil, rfl, fun c hc => by cases hc⟩
theorem Vis.free {N : NetL} {ks : List Nat} {p : Nat × Nat} {a : Arw} (h : Vis N ks p) (ha : a ∈ arws N p.1) (hk : a.tk = none) : Vis N ks (a.to, p.2) :=
  let ⟨s, h1, z, h2, h3⟩ := h; ⟨s, h1, z, .free h2 ha hk, h3⟩
theorem Vis.take {N : NetL} {ks : List Nat} {p : Nat × Nat} {a : Arw} {f : UInt8 → Bool} {c : UInt8} {m : Nat} (h : Vis N ks p) (ha : a ∈ arws N p.1) (hk : a.tk = some f) (hf : f c = true) (hc : c ≠ 0) (hg : grw p.2 c = some m) : Vis N ks (a.to, m) := by
  obtain ⟨s, h1, z, h2, h3, h4⟩ := h
  refine ⟨s, h1, z ++ [c], .take h2 ha hk hf, (Gr_append _ _ _ _).2 ⟨_, h3, (Gr_one _ _ _).2 hg⟩, fun x hx => ?_⟩
  rcases List.mem_append.1 hx with hx | hx
  · exact h4 x hx
  · rw [List.mem_singleton] at hx; subst hx; exact hc
/-- What stands behind place p: over one arrow. -/
def Nxt (N : NetL) (p : Nat × Nat) (a : Arw) (r : Nat × Nat) : Prop := r.1 = a.to ∧ ((a.tk = none ∧ r.2 = p.2) ∨ ∃ f c, a.tk = some f ∧ f c = true ∧ c ≠ 0 ∧ grw p.2 c = some r.2)
theorem Vis.nxt {N : NetL} {ks : List Nat} {p r : Nat × Nat} {a : Arw} (h : Vis N ks p) (ha : a ∈ arws N p.1) (hn : Nxt N p a r) : Vis N ks r := by
  obtain ⟨r1, r2⟩ := r
  obtain ⟨h1, h2⟩ := hn
  dsimp only at h1 h2
  subst h1
  rcases h2 with ⟨h2, rfl⟩ | ⟨f, c, h2, h3, h4, h5⟩
  · exact h.free ha h2
  · exact h.take ha h2 h3 h4 h5
theorem Vis.all {N : NetL} {ks : List Nat} {R : Nat × Nat → Prop} (h0 : ∀ s ∈ ks, R (s, 0)) (h1 : ∀ p a r, R p → a ∈ arws N p.1 → Nxt N p a r → R r) {p : Nat × Nat} (h : Vis N ks p) : R p := by
  obtain ⟨s, hs, z, hr, hg, hz⟩ := h
  obtain ⟨q, nm⟩ := p
  dsimp only at hr hg
  have key : ∀ z q, Run N s z q → (∀ c ∈ z, c ≠ 0) → ∀ nm, Gr 0 z nm → R (q, nm) := by
    intro z q hr
    induction hr with
    | nil => intro _ nm hg; simp only [Gr] at hg; subst hg; exact h0 s hs
    | free r ha hk ih => intro hz nm hg; exact h1 _ _ _ (ih hz nm hg) ha ⟨rfl, .inl ⟨hk, rfl⟩⟩
    | take r ha hk hf ih =>
      intro hz nm hg
      obtain ⟨m, h2, h3⟩ := (Gr_append _ _ _ _).1 hg
      rw [Gr_one] at h3
      exact h1 _ _ _ (ih (fun c hc => hz c (List.mem_append_left _ hc)) m h2) ha ⟨rfl, .inr ⟨_, _, hk, hf, hz _ (by simp), h3⟩⟩
  exact key z q hr hz nm hg
theorem low_byte {c : UInt8} (h : c.toNat < 1) : c = 0 := by
  rw [← UInt8.toNat_inj]
  show c.toNat = 0
  omega
/-- A search under way. -/
structure Sea (N : NetL) (ks : List Nat) (en : Nat) (se td : List (Nat × Nat)) : Prop where
  old : ∀ s ∈ ks, (s, 0) ∈ se
  lt : ∀ p ∈ se, p.1 < N.length ∧ p.2 ≤ 3
  vis : ∀ p ∈ se, Vis N ks p
  sub : ∀ p ∈ td, p ∈ se
  shut : ∀ p a r, p ∈ se → p ∉ td → a ∈ arws N p.1 → Nxt N p a r → r ∈ se
  no : ∀ p ∈ se, p ∉ td → p ≠ (en, 3)
theorem Sea.done {N : NetL} {ks : List Nat} {en : Nat} {se : List (Nat × Nat)} (h : Sea N ks en se []) : ¬ Vis N ks (en, 3) := fun hv => by
  have := Vis.all (R := (· ∈ se)) h.old (fun p a r hp ha hn => h.shut p a r hp (by simp) ha hn) hv
  exact h.no _ this (by simp) rfl
/-- Place p is taken; the first j of its arrows have been looked at; of the next, what the bytes before b lead to. -/
structure SeaA (N : NetL) (ks : List Nat) (en : Nat) (se td : List (Nat × Nat)) (p : Nat × Nat) (j b : Nat) : Prop where
  old : ∀ s ∈ ks, (s, 0) ∈ se
  lt : ∀ p ∈ se, p.1 < N.length ∧ p.2 ≤ 3
  vis : ∀ p ∈ se, Vis N ks p
  sub : ∀ p ∈ td, p ∈ se
  own : p ∈ se
  neq : p ≠ (en, 3)
  shut : ∀ q a r, q ∈ se → q ≠ p → q ∉ td → a ∈ arws N q.1 → Nxt N q a r → r ∈ se
  no : ∀ q ∈ se, q ≠ p → q ∉ td → q ≠ (en, 3)
  seen : ∀ a ∈ (arws N p.1).take j, ∀ r, Nxt N p a r → r ∈ se
  bytes : ∀ a, (arws N p.1)[j]? = some a → ∀ f c m, a.tk = some f → f c = true → c ≠ 0 → c.toNat < b → grw p.2 c = some m → (a.to, m) ∈ se
theorem Sea.take {N : NetL} {ks : List Nat} {en : Nat} {se td : List (Nat × Nat)} {p : Nat × Nat} (h : Sea N ks en se (td ++ [p])) (hp : p ≠ (en, 3)) : SeaA N ks en se td p 0 1 :=
  ⟨h.old, h.lt, h.vis, fun q hq => h.sub q (List.mem_append_left _ hq), h.sub p (by simp), hp, fun q a r hq hne hn ha hr => h.shut q a r hq (by simp [hn, hne]) ha hr,
    fun q hq hne hn => h.no q hq (by simp [hn, hne]), fun a ha => by simp at ha, fun a _ f c m _ _ h3 h4 => (h3 (low_byte h4)).elim⟩
theorem SeaA.done {N : NetL} {ks : List Nat} {en : Nat} {se td : List (Nat × Nat)} {p : Nat × Nat} {j b : Nat} (h : SeaA N ks en se td p j b) (hj : (arws N p.1).length ≤ j) : Sea N ks en se td := by
  refine ⟨h.old, h.lt, h.vis, h.sub, fun q a r hq hn ha hr => ?_, fun q hq hn => ?_⟩
  · by_cases e : q = p
    · subst e; exact h.seen a (by rw [List.take_of_length_le hj]; exact ha) r hr
    · exact h.shut q a r hq e hn ha hr
  · by_cases e : q = p
    · subst e; exact h.neq
    · exact h.no q hq e hn
theorem SeaA.more {N : NetL} {ks : List Nat} {en : Nat} {se td : List (Nat × Nat)} {p r : Nat × Nat} {j b : Nat} (h : SeaA N ks en se td p j b) (hr : Vis N ks r) (hr1 : r.1 < N.length) (hr2 : r.2 ≤ 3) :
    SeaA N ks en (if r ∈ se then se else se ++ [r]) (if r ∈ se then td else td ++ [r]) p j b := by
  by_cases e : r ∈ se
  · rw [if_pos e, if_pos e]; exact h
  · rw [if_neg e, if_neg e]
    refine ⟨fun s hs => List.mem_append_left _ (h.old s hs), fun q hq => ?_, fun q hq => ?_, fun q hq => ?_, List.mem_append_left _ h.own, h.neq, fun q a x hq hne hn ha hx => ?_, fun q hq hne hn => ?_,
      fun a ha x hx => List.mem_append_left _ (h.seen a ha x hx), fun a ha f c m h1 h2 h3 h4 h5 => List.mem_append_left _ (h.bytes a ha f c m h1 h2 h3 h4 h5)⟩
    · rcases List.mem_append.1 hq with hq | hq
      · exact h.lt q hq
      · rw [List.mem_singleton] at hq; subst hq; exact ⟨hr1, hr2⟩
    · rcases List.mem_append.1 hq with hq | hq
      · exact h.vis q hq
      · rw [List.mem_singleton] at hq; subst hq; exact hr
    · rcases List.mem_append.1 hq with hq | hq
      · exact List.mem_append_left _ (h.sub q hq)
      · exact List.mem_append_right _ hq
    · rw [List.mem_append, not_or] at hn
      rcases List.mem_append.1 hq with hq | hq
      · exact List.mem_append_left _ (h.shut q a x hq hne hn.1 ha hx)
      · exact absurd hq hn.2
    · rw [List.mem_append, not_or] at hn
      rcases List.mem_append.1 hq with hq | hq
      · exact h.no q hq hne hn.1
      · exact absurd hq hn.2
theorem SeaA.free {N : NetL} {ks : List Nat} {en : Nat} {se td : List (Nat × Nat)} {p : Nat × Nat} {j : Nat} (h : SeaA N ks en se td p j 1) (hj : j < (arws N p.1).length) (hk : (arws N p.1)[j].tk = none) (hm : ((arws N p.1)[j].to, p.2) ∈ se) : SeaA N ks en se td p (j + 1) 1 := by
  refine { h with seen := fun a ha r hr => ?_, bytes := fun a _ f c m _ _ h3 h4 => (h3 (low_byte h4)).elim }
  rw [List.take_succ_eq_append_getElem hj] at ha
  rcases List.mem_append.1 ha with ha | ha
  · exact h.seen a ha r hr
  · rw [List.mem_singleton] at ha
    subst ha
    obtain ⟨r1, r2⟩ := r
    obtain ⟨h1, h2⟩ := hr
    dsimp only at h1 h2
    subst h1
    rcases h2 with ⟨_, rfl⟩ | ⟨f, c, h2, _⟩
    · exact hm
    · rw [hk] at h2; cases h2
theorem SeaA.byte {N : NetL} {ks : List Nat} {en : Nat} {se td : List (Nat × Nat)} {p : Nat × Nat} {j b : Nat} {f : UInt8 → Bool} (h : SeaA N ks en se td p j b) (hj : j < (arws N p.1).length) (hk : (arws N p.1)[j].tk = some f) (hb : b < 256)
    (hm : f b.toUInt8 = true → ∀ m, grw p.2 b.toUInt8 = some m → ((arws N p.1)[j].to, m) ∈ se) : SeaA N ks en se td p j (b + 1) := by
  refine { h with bytes := fun a ha g c m h1 h2 h3 h4 h5 => ?_ }
  by_cases e : c.toNat < b
  · exact h.bytes a ha g c m h1 h2 h3 e h5
  · have ec : c = b.toUInt8 := by
      rw [← UInt8.toNat_inj]
      have : (b.toUInt8).toNat = b := by simp; omega
      omega
    have ea : a = (arws N p.1)[j] := by
      rw [List.getElem?_eq_getElem hj] at ha
      injection ha with ha
      exact ha.symm
    subst ea
    rw [hk] at h1
    injection h1 with h1
    subst h1
    rw [ec] at h2 h5
    exact hm h2 m h5
theorem SeaA.taken {N : NetL} {ks : List Nat} {en : Nat} {se td : List (Nat × Nat)} {p : Nat × Nat} {j b : Nat} {f : UInt8 → Bool} (h : SeaA N ks en se td p j b) (hj : j < (arws N p.1).length) (hk : (arws N p.1)[j].tk = some f) (hb : 256 ≤ b) : SeaA N ks en se td p (j + 1) 1 := by
  refine { h with seen := fun a ha r hr => ?_, bytes := fun a _ f c m _ _ h3 h4 => (h3 (low_byte h4)).elim }
  rw [List.take_succ_eq_append_getElem hj] at ha
  rcases List.mem_append.1 ha with ha | ha
  · exact h.seen a ha r hr
  · rw [List.mem_singleton] at ha
    subst ha
    obtain ⟨r1, r2⟩ := r
    obtain ⟨h1, h2⟩ := hr
    dsimp only at h1 h2
    subst h1
    rcases h2 with ⟨h2, _⟩ | ⟨g, c, h2, h3, h4, h5⟩
    · rw [hk] at h2; cases h2
    · exact h.bytes _ (List.getElem?_eq_getElem hj) g c r2 h2 h3 h4 (by have := c.toNat_lt; omega) h5
/-- Starts of the search. -/
structure Sea0 (N : NetL) (ks done : List Nat) (se td : List (Nat × Nat)) : Prop where
  mem : ∀ p, p ∈ se ↔ p.2 = 0 ∧ p.1 ∈ done
  td : ∀ p, p ∈ td ↔ p ∈ se
theorem Sea0.sea {N : NetL} {ks done : List Nat} {en : Nat} {se td : List (Nat × Nat)} (h : Sea0 N ks done se td) (hd : ∀ s, s ∈ done ↔ s ∈ ks) (hl : ∀ s ∈ ks, s < N.length) : Sea N ks en se td := by
  refine ⟨fun s hs => (h.mem _).2 ⟨rfl, (hd s).2 hs⟩, fun p hp => ?_, fun p hp => ?_, fun p hp => (h.td p).1 hp, fun p a r hp hn => absurd ((h.td p).2 hp) hn, fun p hp hn => absurd ((h.td p).2 hp) hn⟩
  · obtain ⟨h1, h2⟩ := (h.mem p).1 hp
    exact ⟨hl _ ((hd _).1 h2), by omega⟩
  · obtain ⟨h1, h2⟩ := (h.mem p).1 hp
    obtain ⟨q, nm⟩ := p
    dsimp only at h1 h2
    subst h1
    exact Vis.start ((hd _).1 h2)
end Go.Proofs.YtndfhicdabdafaaDoor
