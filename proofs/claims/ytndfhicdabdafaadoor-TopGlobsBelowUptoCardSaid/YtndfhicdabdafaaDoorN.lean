/- Nets of states and arrows, in plain words of Lean: what they run over, and how a part adds to them. -/
import Derived.Test.YtndfhicdabdafaaDoorF
namespace Go.Proofs.YtndfhicdabdafaaDoor
open Go Go.RowKit

/-- An arrow: where to, and what it takes (none: nothing). -/
structure Arw where
  to : Nat
  tk : Option (UInt8 → Bool)
abbrev NetL := List (List Arw)
def arws (N : NetL) (q : Nat) : List Arw := N.getD q []

inductive Run (N : NetL) (s : Nat) : List UInt8 → Nat → Prop
  | nil : Run N s [] s
  | free {l : List UInt8} {q : Nat} {a : Arw} : Run N s l q → a ∈ arws N q → a.tk = none → Run N s l a.to
  | take {l : List UInt8} {q : Nat} {a : Arw} {f : UInt8 → Bool} {c : UInt8} : Run N s l q → a ∈ arws N q → a.tk = some f → f c = true → Run N s (l ++ [c]) a.to

theorem Run.mono {N N' : NetL} {s t : Nat} {l : List UInt8} (h : ∀ q a, a ∈ arws N q → a ∈ arws N' q) (r : Run N s l t) : Run N' s l t := by
  induction r with
  | nil => exact .nil
  | free _ ha hk ih => exact .free ih (h _ _ ha) hk
  | take _ ha hk hf ih => exact .take ih (h _ _ ha) hk hf
/-- No way leads from new states into old ones. -/
theorem Run.old {N N' : NetL} {s t : Nat} {l : List UInt8} (O : Nat → Prop) (h : ∀ q a, a ∈ arws N' q → O a.to → O q ∧ a ∈ arws N q) (r : Run N' s l t) : O t → Run N s l t := by
  induction r with
  | nil => exact fun _ => .nil
  | free _ ha hk ih => exact fun ho => let ⟨h1, h2⟩ := h _ _ ha ho; .free (ih h1) h2 hk
  | take _ ha hk hf ih => exact fun ho => let ⟨h1, h2⟩ := h _ _ ha ho; .take (ih h1) h2 hk hf
theorem Run.trans {N : NetL} {s q t : Nat} {l m : List UInt8} (r : Run N s l q) (r' : Run N q m t) : Run N s (l ++ m) t := by
  induction r' with
  | nil => simpa using r
  | free _ ha hk ih => exact .free ih ha hk
  | take _ ha hk hf ih => rw [← List.append_assoc]; exact .take ih ha hk hf
theorem Run.split {N : NetL} {s t : Nat} {z : List UInt8} (r : Run N s z t) : ∀ l m, z = l ++ m → ∃ q, Run N s l q ∧ Run N q m t := by
  induction r with
  | nil =>
    intro l m h
    have h1 := List.append_eq_nil_iff.1 h.symm
    rw [h1.1, h1.2]
    exact ⟨s, .nil, .nil⟩
  | free _ ha hk ih =>
    intro l m h
    obtain ⟨q, h1, h2⟩ := ih l m h
    exact ⟨q, h1, .free h2 ha hk⟩
  | take r ha hk hf ih =>
    intro l m h
    rename_i l0 q0 a0 f0 c0
    rcases List.eq_nil_or_concat m with rfl | ⟨m', x, rfl⟩
    · rw [List.append_nil] at h
      rw [← h]
      exact ⟨_, .take r ha hk hf, .nil⟩
    · rw [List.concat_eq_append, ← List.append_assoc] at h
      have h1 := List.append_inj' h rfl
      obtain ⟨q, h2, h3⟩ := ih l m' h1.1
      have hx : c0 = x := by have := h1.2; injection this
      subst hx
      rw [List.concat_eq_append]
      exact ⟨q, h2, .take h3 ha hk hf⟩

def Val (N : NetL) : Prop := ∀ q a, a ∈ arws N q → a.to < N.length
def addSt (N : NetL) : NetL := N ++ [[]]
def addAr (N : NetL) (q : Nat) (a : Arw) : NetL := N.set q (arws N q ++ [a])
theorem arws_ge {N : NetL} {q : Nat} (h : N.length ≤ q) : arws N q = [] := by unfold arws; rw [List.getD_eq_getElem?_getD, List.getElem?_eq_none h]; rfl
theorem lt_of_arws {N : NetL} {q : Nat} {a : Arw} (h : a ∈ arws N q) : q < N.length := by
  rcases Nat.lt_or_ge q N.length with h1 | h1
  · exact h1
  · rw [arws_ge h1] at h; cases h
theorem arws_addSt (N : NetL) (q : Nat) : arws (addSt N) q = arws N q := by
  unfold arws addSt
  simp only [List.getD_eq_getElem?_getD]
  by_cases h : q < N.length
  · rw [List.getElem?_append_left h]
  · rw [List.getElem?_append_right (by omega), List.getElem?_eq_none (l := N) (by omega)]
    cases h9 : q - N.length with
    | zero => rfl
    | succ k => rfl
theorem addSt_len (N : NetL) : (addSt N).length = N.length + 1 := by simp [addSt]
theorem addAr_len (N : NetL) (q : Nat) (a : Arw) : (addAr N q a).length = N.length := by simp [addAr]
theorem arws_addAr {N : NetL} {q : Nat} (h : q < N.length) (a : Arw) (r : Nat) : arws (addAr N q a) r = if r = q then arws N q ++ [a] else arws N r := by
  unfold addAr
  conv => lhs; unfold arws
  rw [List.getD_eq_getElem?_getD, List.getElem?_set]
  by_cases e : q = r
  · subst e; simp [h]; unfold arws; simp [h]
  · rw [if_neg e, if_neg (fun h => e h.symm)]
    unfold arws
    rw [List.getD_eq_getElem?_getD]

/-- From N, at state fr, a net N' with a way on to `to`, over L. -/
structure Bui (s0 : Nat) (L : List UInt8 → Prop) (N : NetL) (fr : Nat) (N' : NetL) (to : Nat) : Prop where
  len : N.length ≤ N'.length
  val : Val N'
  same : ∀ q, q < N.length → q ≠ fr → arws N' q = arws N q
  keep : ∀ q a, a ∈ arws N q → a ∈ arws N' q
  new : ∀ q a, a ∈ arws N' q → a.to < N.length → q < N.length ∧ a ∈ arws N q
  lt : to < N'.length
  fresh : N.length ≤ to ∨ to = fr
  lang : ∀ l, Run N' s0 l to ↔ ∃ a b, l = a ++ b ∧ Run N s0 a fr ∧ L b

theorem Bui.old {s0 : Nat} {L : List UInt8 → Prop} {N N' : NetL} {fr to : Nat} (h : Bui s0 L N fr N' to) {q : Nat} (hq : q < N.length) (l : List UInt8) : Run N' s0 l q ↔ Run N s0 l q :=
  ⟨fun r => r.old (· < N.length) h.new hq, fun r => r.mono h.keep⟩
theorem Bui.nil {s0 : Nat} {N : NetL} {fr : Nat} (hv : Val N) (hf : fr < N.length) : Bui s0 (fun l => l = []) N fr N fr :=
  ⟨Nat.le_refl _, hv, fun _ _ _ => rfl, fun _ _ h => h, fun q a h _ => ⟨lt_of_arws h, h⟩, hf, .inr rfl, fun l => ⟨fun r => ⟨l, [], by simp, r, rfl⟩, by rintro ⟨a, b, rfl, r, rfl⟩; simpa using r⟩⟩
theorem Bui.iff {s0 : Nat} {L L' : List UInt8 → Prop} {N N' : NetL} {fr to : Nat} (h : Bui s0 L N fr N' to) (e : ∀ l, L l ↔ L' l) : Bui s0 L' N fr N' to :=
  { h with lang := fun l => (h.lang l).trans ⟨fun ⟨a, b, h1, h2, h3⟩ => ⟨a, b, h1, h2, (e _).1 h3⟩, fun ⟨a, b, h1, h2, h3⟩ => ⟨a, b, h1, h2, (e _).2 h3⟩⟩ }
theorem Bui.comp {s0 : Nat} {L1 L2 : List UInt8 → Prop} {N N1 N2 : NetL} {fr m to : Nat} (h1 : Bui s0 L1 N fr N1 m) (h2 : Bui s0 L2 N1 m N2 to) : Bui s0 (fun l => ∃ x y, l = x ++ y ∧ L1 x ∧ L2 y) N fr N2 to := by
  have hlen1 := h1.len
  refine ⟨Nat.le_trans h1.len h2.len, h2.val, fun q hq hne => ?_, fun q a h => h2.keep q a (h1.keep q a h), fun q a h ht => ?_, h2.lt, ?_, fun l => ?_⟩
  · rw [h2.same q (by omega) (by rcases h1.fresh with h | h <;> omega), h1.same q hq hne]
  · obtain ⟨a1, a2⟩ := h2.new q a h (by omega)
    exact h1.new q a a2 ht
  · rcases h2.fresh with h | h
    · exact .inl (by omega)
    · rw [h]; exact h1.fresh
  · rw [h2.lang]
    constructor
    · rintro ⟨a, b, rfl, r, hb⟩
      obtain ⟨x, y, rfl, r', hy⟩ := (h1.lang a).1 r
      exact ⟨x, y ++ b, by simp, r', y, b, rfl, hy, hb⟩
    · rintro ⟨a, b, rfl, r, x, y, rfl, hx, hy⟩
      exact ⟨a ++ x, y, by simp, (h1.lang _).2 ⟨a, x, rfl, r, hx⟩, hy⟩

section
variable {s0 : Nat} {N : NetL} {fr : Nat} (hv : Val N) (hf : fr < N.length) (hs : s0 < N.length)
include hv hf hs
/-- One arrow to a new state. -/
theorem Bui.one (a : Arw) (ha : a.to = N.length) : 
    let N1 := addAr (addSt N) fr a
    N1.length = N.length + 1 ∧ Val N1 ∧ (∀ q, arws N1 q = if q = fr then arws N fr ++ [a] else arws N q) ∧ (∀ q b, b ∈ arws N1 q → b.to < N.length → q < N.length ∧ b ∈ arws N q) ∧
    (∀ l, Run N1 s0 l N.length ↔ (a.tk = none ∧ Run N s0 l fr) ∨ ∃ f m c, a.tk = some f ∧ l = m ++ [c] ∧ Run N s0 m fr ∧ f c = true) := by
  have hA : ∀ q, arws (addAr (addSt N) fr a) q = if q = fr then arws N fr ++ [a] else arws N q := by
    intro q
    rw [arws_addAr (by rw [addSt_len]; omega), arws_addSt, arws_addSt]
  have hlt : ∀ q b, b ∈ arws N q → q < N.length := by
    intro q b h
    rcases Nat.lt_or_ge q N.length with h1 | h1
    · exact h1
    · rw [arws_ge h1] at h; cases h
  have hnew : ∀ q b, b ∈ arws (addAr (addSt N) fr a) q → b.to < N.length → q < N.length ∧ b ∈ arws N q := by
    intro q b h hb
    rw [hA] at h
    split at h
    · rename_i e
      subst e
      rcases List.mem_append.1 h with h | h
      · exact ⟨hf, h⟩
      · rw [List.mem_singleton] at h; subst h; omega
    · exact ⟨hlt q b h, h⟩
  have hkeep : ∀ q b, b ∈ arws N q → b ∈ arws (addAr (addSt N) fr a) q := by
    intro q b h
    rw [hA]
    split
    · rename_i e; subst e; exact List.mem_append_left _ h
    · exact h
  have hin : a ∈ arws (addAr (addSt N) fr a) fr := by rw [hA, if_pos rfl]; simp
  -- arrows into the new state
  have hto : ∀ q b, b ∈ arws (addAr (addSt N) fr a) q → b.to = N.length → q = fr ∧ b = a := by
    intro q b h hb
    rw [hA] at h
    split at h
    · rename_i e
      rcases List.mem_append.1 h with h | h
      · have := hv fr b h; omega
      · rw [List.mem_singleton] at h; exact ⟨e, h⟩
    · have := hv q b h; omega
  refine ⟨by rw [addAr_len, addSt_len], fun q b h => ?_, hA, hnew, fun l => ⟨fun r => ?_, ?_⟩⟩
  · rw [addAr_len, addSt_len]
    rw [hA] at h
    split at h
    · rcases List.mem_append.1 h with h | h
      · have := hv _ _ h; omega
      · rw [List.mem_singleton] at h; subst h; omega
    · have := hv _ _ h; omega
  · generalize ht : N.length = t at r
    cases r with
    | nil => omega
    | free r hb hk =>
      obtain ⟨e1, e2⟩ := hto _ _ hb ht.symm
      subst e1 e2
      exact .inl ⟨hk, r.old (· < N.length) hnew hf⟩
    | take r hb hk hfc =>
      obtain ⟨e1, e2⟩ := hto _ _ hb ht.symm
      subst e1 e2
      exact .inr ⟨_, _, _, hk, rfl, r.old (· < N.length) hnew hf, hfc⟩
  · rintro (⟨h1, h2⟩ | ⟨f, m, c, h1, rfl, h2, h3⟩)
    · rw [← ha]; exact .free (h2.mono hkeep) hin h1
    · rw [← ha]; exact .take (h2.mono hkeep) hin h1 h3
theorem Bui.single (f : UInt8 → Bool) : Bui s0 (fun l => ∃ c, l = [c] ∧ f c = true) N fr (addAr (addSt N) fr ⟨N.length, some f⟩) N.length := by
  obtain ⟨h1, h2, h3, h4, h5⟩ := Bui.one hv hf hs ⟨N.length, some f⟩ rfl
  refine ⟨by omega, h2, fun q _ hne => by rw [h3, if_neg hne], fun q b h => ?_, h4, by omega, .inl (Nat.le_refl _), fun l => ?_⟩
  · rw [h3]; split
    · rename_i e; subst e; exact List.mem_append_left _ h
    · exact h
  · rw [h5]
    constructor
    · rintro (⟨h, _⟩ | ⟨g, m, c, h, rfl, r, hc⟩)
      · cases h
      · injection h with h; subst h
        exact ⟨m, [c], rfl, r, c, rfl, hc⟩
    · rintro ⟨a, b, rfl, r, c, rfl, hc⟩
      exact .inr ⟨f, a, c, rfl, rfl, r, hc⟩
theorem Bui.star (f : UInt8 → Bool) : Bui s0 (fun l => ∀ c ∈ l, f c = true) N fr (addAr (addAr (addSt N) fr ⟨N.length, none⟩) N.length ⟨N.length, some f⟩) N.length := by
  obtain ⟨h1, h2, h3, h4, h5⟩ := Bui.one hv hf hs ⟨N.length, none⟩ rfl
  generalize hN0 : addAr (addSt N) fr ⟨N.length, none⟩ = N0 at h1 h2 h3 h4 h5
  have hr0 : arws N0 N.length = [] := by rw [h3, if_neg (by omega), arws_ge (Nat.le_refl _)]
  have hA : ∀ q, arws (addAr N0 N.length ⟨N.length, some f⟩) q = if q = N.length then [⟨N.length, some f⟩] else arws N0 q := by
    intro q
    rw [arws_addAr (by omega), hr0]
    rfl
  have hkeep0 : ∀ q b, b ∈ arws N0 q → b ∈ arws (addAr N0 N.length ⟨N.length, some f⟩) q := by
    intro q b h
    rw [hA]
    split
    · rename_i e; subst e; rw [hr0] at h; cases h
    · exact h
  have hnew : ∀ q b, b ∈ arws (addAr N0 N.length ⟨N.length, some f⟩) q → b.to < N.length → q < N.length ∧ b ∈ arws N q := by
    intro q b h hb
    rw [hA] at h
    split at h
    · rw [List.mem_singleton] at h; subst h; exact absurd hb (Nat.lt_irrefl _)
    · exact h4 q b h hb
  refine ⟨by rw [addAr_len]; omega, fun q b h => ?_, fun q hq hne => by rw [hA, if_neg (by omega), h3, if_neg hne], fun q b h => hkeep0 q b ?_, hnew, by rw [addAr_len]; omega, .inl (Nat.le_refl _), fun l => ⟨fun r => ?_, ?_⟩⟩
  · rw [addAr_len]
    rw [hA] at h
    split at h
    · rw [List.mem_singleton] at h; subst h; dsimp only; omega
    · exact h2 q b h
  · rw [h3]; split
    · rename_i e; subst e; exact List.mem_append_left _ h
    · exact h
  · have key : ∀ l t, Run (addAr N0 N.length ⟨N.length, some f⟩) s0 l t → t = N.length → ∃ a b, l = a ++ b ∧ Run N s0 a fr ∧ ∀ c ∈ b, f c = true := by
      clear r
      intro l t r
      induction r with
      | nil => intro e; omega
      | free r ha hk ih =>
        intro e
        rename_i l q a
        rw [hA] at ha
        split at ha
        · rw [List.mem_singleton] at ha; subst ha; cases hk
        · have ha' := ha
          rw [h3] at ha'
          split at ha'
          · rename_i e2
            subst e2
            exact ⟨l, [], by simp, r.old (· < N.length) hnew hf, fun c hc => by cases hc⟩
          · have := hv q a ha'; omega
      | take r ha hk hfc ih =>
        intro e
        rename_i l q a g c
        rw [hA] at ha
        split at ha
        · rename_i e2
          rw [List.mem_singleton] at ha
          subst ha
          injection hk with hk
          subst hk
          obtain ⟨x, y, rfl, h8, h9⟩ := ih e2
          exact ⟨x, y ++ [c], by simp, h8, fun z hz => by
            rcases List.mem_append.1 hz with hz | hz
            · exact h9 z hz
            · rw [List.mem_singleton] at hz; subst hz; exact hfc⟩
        · rw [h3] at ha
          split at ha
          · rcases List.mem_append.1 ha with ha | ha
            · have := hv _ a ha; omega
            · rw [List.mem_singleton] at ha; subst ha; cases hk
          · have := hv q a ha; omega
    exact key _ _ r rfl
  · rintro ⟨a, b, rfl, r, hb⟩
    have h0 : Run (addAr N0 N.length ⟨N.length, some f⟩) s0 a N.length := ((h5 a).2 (.inl ⟨rfl, r⟩)).mono hkeep0
    have hin : (⟨N.length, some f⟩ : Arw) ∈ arws (addAr N0 N.length ⟨N.length, some f⟩) N.length := by rw [hA, if_pos rfl]; exact List.mem_singleton.2 rfl
    induction b generalizing a with
    | nil => simpa using h0
    | cons c b ih =>
      rw [show a ++ c :: b = (a ++ [c]) ++ b by simp]
      have hstep : Run (addAr N0 N.length ⟨N.length, some f⟩) s0 (a ++ [c]) N.length := .take h0 hin rfl (hb c List.mem_cons_self)
      clear ih
      have gen : ∀ (b : List UInt8) (x : List UInt8), (∀ c ∈ b, f c = true) → Run (addAr N0 N.length ⟨N.length, some f⟩) s0 x N.length → Run (addAr N0 N.length ⟨N.length, some f⟩) s0 (x ++ b) N.length := by
        intro b
        induction b with
        | nil => intro x _ h; simpa using h
        | cons c b ih =>
          intro x hb h
          rw [show x ++ c :: b = (x ++ [c]) ++ b by simp]
          exact ih _ (fun z hz => hb z (List.mem_cons_of_mem _ hz)) (.take h hin rfl (hb c List.mem_cons_self))
      exact gen b _ (fun z hz => hb z (List.mem_cons_of_mem _ hz)) hstep
end

/-- Some ways of a part are laid; the state N.length is where they meet. -/
structure Wys (s0 : Nat) (L : List UInt8 → Prop) (N : NetL) (fr : Nat) (N' : NetL) : Prop where
  len : N.length < N'.length
  val : Val N'
  same : ∀ q, q < N.length → q ≠ fr → arws N' q = arws N q
  keep : ∀ q a, a ∈ arws N q → a ∈ arws N' q
  sink : arws N' N.length = []
  new : ∀ q a, a ∈ arws N' q → a.to < N.length → q < N.length ∧ a ∈ arws N q
  lang : ∀ l, Run N' s0 l N.length ↔ ∃ a b, l = a ++ b ∧ Run N s0 a fr ∧ L b
theorem Wys.zero {s0 : Nat} {N : NetL} {fr : Nat} (hv : Val N) (hs : s0 < N.length) : Wys s0 (fun _ => False) N fr (addSt N) := by
  refine ⟨by rw [addSt_len]; omega, fun q a h => by rw [addSt_len]; rw [arws_addSt] at h; have := hv q a h; omega, fun q _ _ => arws_addSt N q, fun q a h => by rw [arws_addSt]; exact h, by rw [arws_addSt, arws_ge (Nat.le_refl _)],
    fun q a h _ => by rw [arws_addSt] at h; exact ⟨lt_of_arws h, h⟩, fun l => ⟨fun r => ?_, fun ⟨_, _, _, _, h⟩ => h.elim⟩⟩
  exfalso
  generalize ht : N.length = t at r
  cases r with
  | nil => omega
  | free r ha _ => rw [arws_addSt] at ha; have := hv _ _ ha; omega
  | take r ha _ _ => rw [arws_addSt] at ha; have := hv _ _ ha; omega
theorem Wys.done {s0 : Nat} {L : List UInt8 → Prop} {N N' : NetL} {fr : Nat} (h : Wys s0 L N fr N') : Bui s0 L N fr N' N.length :=
  ⟨Nat.le_of_lt h.len, h.val, h.same, h.keep, h.new, h.len, .inl (Nat.le_refl _), h.lang⟩
theorem Wys.step {s0 : Nat} {L Lw : List UInt8 → Prop} {N Nj N2 : NetL} {fr e : Nat} (hf : fr < N.length) (hs : s0 < N.length) (h : Wys s0 L N fr Nj) (hb : Bui s0 Lw (addAr (addSt Nj) fr ⟨Nj.length, none⟩) Nj.length N2 e) :
    Wys s0 (fun l => L l ∨ Lw l) N fr (addAr N2 e ⟨N.length, none⟩) := by
  have hl := h.len
  obtain ⟨h1, h2, h3, h4, h5⟩ := Bui.one h.val (by omega : fr < Nj.length) (by omega : s0 < Nj.length) ⟨Nj.length, none⟩ rfl
  generalize addAr (addSt Nj) fr ⟨Nj.length, none⟩ = N1 at h1 h2 h3 h4 h5 hb
  have he : Nj.length ≤ e := by rcases hb.fresh with h9 | h9 <;> omega
  have helt := hb.lt
  have hA : ∀ q, arws (addAr N2 e ⟨N.length, none⟩) q = if q = e then arws N2 e ++ [⟨N.length, none⟩] else arws N2 q := fun q => arws_addAr hb.lt _ q
  have hkN1 : ∀ q a, a ∈ arws Nj q → a ∈ arws N1 q := by
    intro q a ha
    rw [h3]; split
    · rename_i e2; subst e2; exact List.mem_append_left _ ha
    · exact ha
  have hk2 : ∀ q a, a ∈ arws N2 q → a ∈ arws (addAr N2 e ⟨N.length, none⟩) q := by
    intro q a ha
    rw [hA]; split
    · rename_i e2; subst e2; exact List.mem_append_left _ ha
    · exact ha
  have hsink : arws N2 N.length = [] := by rw [hb.same _ (by omega) (by omega), h3, if_neg (by omega)]; exact h.sink
  have hnew : ∀ q a, a ∈ arws (addAr N2 e ⟨N.length, none⟩) q → a.to < N.length → q < N.length ∧ a ∈ arws N q := by
    intro q a ha hto
    have ha2 : a ∈ arws N2 q := by
      rw [hA] at ha
      split at ha
      · rename_i e2
        rcases List.mem_append.1 ha with ha | ha
        · rw [e2]; exact ha
        · rw [List.mem_singleton] at ha; subst ha; exact absurd hto (Nat.lt_irrefl _)
      · exact ha
    obtain ⟨b1, b2⟩ := hb.new q a ha2 (by omega)
    obtain ⟨b3, b4⟩ := h4 q a b2 (by omega)
    exact h.new q a b4 hto
  refine ⟨by rw [addAr_len]; have := hb.len; omega, fun q a ha => ?_, fun q hq hne => by rw [hA, if_neg (by omega), hb.same q (by omega) (by omega), h3, if_neg hne, h.same q hq hne],
    fun q a ha => hk2 q a (hb.keep q a (hkN1 q a (h.keep q a ha))), by rw [hA, if_neg (by omega)]; exact hsink, hnew, fun l => ?_⟩
  · rw [addAr_len]
    rw [hA] at ha
    split at ha
    · rcases List.mem_append.1 ha with ha | ha
      · exact hb.val _ _ ha
      · rw [List.mem_singleton] at ha; subst ha; have := hb.len; dsimp only; omega
    · exact hb.val _ _ ha
  · have key : ∀ l t, Run (addAr N2 e ⟨N.length, none⟩) s0 l t → (t ≠ N.length → Run N2 s0 l t) ∧ (t = N.length → Run N2 s0 l N.length ∨ Run N2 s0 l e) := by
      intro l t r
      induction r with
      | nil => exact ⟨fun _ => .nil, fun e9 => by omega⟩
      | free r ha hk ih =>
        rename_i l q a
        have hq : q ≠ N.length := fun e9 => by subst e9; rw [hA, if_neg (by omega), hsink] at ha; cases ha
        have r2 := ih.1 hq
        rw [hA] at ha
        split at ha
        · rename_i e2
          subst e2
          rcases List.mem_append.1 ha with ha | ha
          · exact ⟨fun _ => .free r2 ha hk, fun e9 => .inl (e9 ▸ .free r2 ha hk)⟩
          · rw [List.mem_singleton] at ha
            subst ha
            exact ⟨fun hn => absurd rfl hn, fun _ => .inr r2⟩
        · exact ⟨fun _ => .free r2 ha hk, fun e9 => .inl (e9 ▸ .free r2 ha hk)⟩
      | take r ha hk hfc ih =>
        rename_i l q a g c
        have hq : q ≠ N.length := fun e9 => by subst e9; rw [hA, if_neg (by omega), hsink] at ha; cases ha
        have r2 := ih.1 hq
        rw [hA] at ha
        split at ha
        · rename_i e2
          subst e2
          rcases List.mem_append.1 ha with ha | ha
          · exact ⟨fun _ => .take r2 ha hk hfc, fun e9 => .inl (e9 ▸ .take r2 ha hk hfc)⟩
          · rw [List.mem_singleton] at ha
            subst ha
            cases hk
        · exact ⟨fun _ => .take r2 ha hk hfc, fun e9 => .inl (e9 ▸ .take r2 ha hk hfc)⟩
    have hfr : ∀ l, Run N1 s0 l Nj.length ↔ Run N s0 l fr := by
      intro l
      rw [h5]
      constructor
      · rintro (⟨_, r⟩ | ⟨f, _, _, h9, _⟩)
        · exact r.old (· < N.length) h.new hf
        · cases h9
      · intro r
        exact .inl ⟨rfl, r.mono h.keep⟩
    have hr1 : Run N2 s0 l N.length ↔ Run Nj s0 l N.length := by
      rw [hb.old (by omega)]
      exact ⟨fun r => r.old (· < Nj.length) h4 hl, fun r => r.mono hkN1⟩
    constructor
    · intro r
      rcases (key l _ r).2 rfl with r | r
      · obtain ⟨a, b, e1, e2, e3⟩ := (h.lang l).1 (hr1.1 r)
        exact ⟨a, b, e1, e2, .inl e3⟩
      · obtain ⟨a, b, e1, e2, e3⟩ := (hb.lang l).1 r
        exact ⟨a, b, e1, (hfr a).1 e2, .inr e3⟩
    · rintro ⟨a, b, rfl, r, hL | hL⟩
      · exact (hr1.2 ((h.lang _).2 ⟨a, b, rfl, r, hL⟩)).mono hk2
      · have r9 : Run N2 s0 (a ++ b) e := (hb.lang _).2 ⟨a, b, rfl, (hfr a).2 r, hL⟩
        exact .free (r9.mono hk2) (a := ⟨N.length, none⟩) (by rw [hA, if_pos rfl]; exact List.mem_append_right _ (List.mem_singleton.2 rfl)) rfl
/-- No state has many arrows. -/
def Few (k : Nat) (N : NetL) : Prop := ∀ q, (arws N q).length + k ≤ 2 * N.length
theorem Few.st {k : Nat} {N : NetL} (h : Few k N) : Few (k + 2) (addSt N) := fun q => by
  have := h q
  rw [arws_addSt, addSt_len]
  omega
theorem Few.ar {k q : Nat} {N : NetL} {a : Arw} (h : Few (k + 1) N) (hq : q < N.length) : Few k (addAr N q a) := fun r => by
  rw [arws_addAr hq, addAr_len]
  split
  · have := h q
    rw [List.length_append, List.length_singleton]
    omega
  · have := h r
    omega
theorem Few.mono {k j : Nat} {N : NetL} (h : Few k N) (hj : j ≤ k) : Few j N := fun q => by
  have := h q
  omega
end Go.Proofs.YtndfhicdabdafaaDoor
