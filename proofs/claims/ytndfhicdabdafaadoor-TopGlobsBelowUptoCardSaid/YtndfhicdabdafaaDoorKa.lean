/- A walk over a function's code with the frame kept as a function from slots to values: rules for each form of code, one operation at a time. -/
import Derived.WalkKit
import Derived.Deep.Quiet
import Derived.StillTail
import Derived.KernelRfl
namespace Go.Proofs.YtndfhicdabdafaaDoor
open Go Go.RowKit

/-! ### frames as functions -/

abbrev Env := Nat → Value
def upd (e : Env) (d : Nat) (v : Value) : Env := fun t => bif Nat.beq t d then v else e t
def mem : List Nat → Nat → Bool
  | [], _ => false
  | x :: l, t => bif Nat.beq t x then true else mem l t
/-- Slots of D as in u, all others as in e. -/
def ov (D : List Nat) (u e : Env) : Env := fun t => bif mem D t then u t else e t
def updL (e : Env) : List Nat → List Value → Env
  | d :: ds, v :: vs => upd (updL e ds vs) d v
  | _, _ => e
def ev (e : Env) : Operand → Value
  | .tmp t => e t
  | .const v => v
  | .global g => .pointer (some ⟨g, 0, none⟩)
  | .func f => .func (.func f) #[] #[]
def evs (e : Env) : List Operand → List Value
  | [] => []
  | x :: l => ev e x :: evs e l
def env0 (as : List Value) : Env := fun t => as.getD t undef
def lt' (a b : Nat) : Bool := Nat.ble (a + 1) b

theorem upd_same (e : Env) (d : Nat) (v : Value) : upd e d v d = v := by simp [upd]
theorem upd_other (e : Env) {d t : Nat} (v : Value) (h : t ≠ d) : upd e d v t = e t := by
  have : Nat.beq t d = false := by rw [Bool.eq_false_iff]; intro hb; exact h (Nat.eq_of_beq_eq_true hb)
  simp [upd, this]
theorem evs_eq (e : Env) (l : List Operand) : evs e l = l.map (ev e) := by
  induction l with
  | nil => rfl
  | cons x l ih => simp [evs, ih]

/-- Slots outside D are as in e0. -/
def Agree (D : List Nat) (e e0 : Env) : Prop := ∀ t, mem D t = false → e t = e0 t

theorem agree_refl (D : List Nat) (e : Env) : Agree D e e := fun _ _ => rfl
theorem agree_upd {D : List Nat} {e e0 : Env} {d : Nat} {v : Value} (hd : mem D d = true) (h : Agree D e e0) : Agree D (upd e d v) e0 := by
  intro t ht
  by_cases e' : t = d
  · subst e'; rw [hd] at ht; cases ht
  · rw [upd_other _ _ e']; exact h t ht
theorem agree_ov {D D' : List Nat} {u e e0 : Env} (hs : D'.all (mem D) = true) (h : Agree D e e0) : Agree D (ov D' u e) e0 := by
  intro t ht
  by_cases hm : mem D' t = true
  · exfalso
    have : ∀ l : List Nat, l.all (mem D) = true → mem l t = true → mem D t = true := by
      intro l
      induction l with
      | nil => intro _ hh; cases hh
      | cons x l ih =>
        intro ha hh
        simp only [List.all_cons, Bool.and_eq_true] at ha
        by_cases e' : t = x
        · subst e'; exact ha.1
        · have hb : Nat.beq t x = false := by rw [Bool.eq_false_iff]; intro hb; exact e' (Nat.eq_of_beq_eq_true hb)
          simp only [mem, hb, cond_false] at hh
          exact ih ha.2 hh
    rw [this D' hs hm] at ht; cases ht
  · simp only [Bool.not_eq_true] at hm
    simp only [ov, hm, cond_false]
    exact h t ht
theorem agree_updL {D : List Nat} {e e0 : Env} : ∀ {S : List Nat} {vs : List Value}, S.all (mem D) = true → Agree D e e0 → Agree D (updL e S vs) e0
  | [], _, _, h => h
  | _ :: _, [], _, h => h
  | d :: S, v :: vs, hs, h => by
    simp only [List.all_cons, Bool.and_eq_true] at hs
    exact agree_upd hs.1 (agree_updL hs.2 h)
/-- Behind a loop or a cut within: its slots are slots of D. -/
theorem agree_in {D D' : List Nat} {u e e0 : Env} {S : List Nat} {vs : List Value} (hs : S.all (mem D) = true) (hd : D'.all (mem D) = true) (h : Agree D e e0) : Agree D (updL (ov D' u e) S vs) e0 :=
  agree_updL hs (agree_ov hd h)

theorem env_norm {D S : List Nat} {e e0 : Env} (h : Agree D e e0) : e = updL (ov D e e0) S (S.map e) := by
  induction S with
  | nil =>
    funext t
    show e t = ov D e e0 t
    by_cases hm : mem D t = true
    · simp [ov, hm]
    · simp only [Bool.not_eq_true] at hm; simp only [ov, hm, cond_false]; exact h t hm
  | cons d S ih =>
    funext t
    show e t = upd (updL (ov D e e0) S (S.map e)) d (e d) t
    by_cases e' : t = d
    · subst e'; rw [upd_same]
    · rw [upd_other _ _ e', ← ih]

/-! ### the walk -/

structure Fr (a : Act) (n : Nat) (ds : List Deferred) (e : Env) : Prop where
  dfr : a.defers = ds
  size : a.tmps.size = n
  get : ∀ t, a.tmps.getD t undef = e t

section
variable {P : Program} {n : Nat} {ds : List Deferred}

theorem Fr.eval {a : Act} {e : Env} (h : Fr a n ds e) : a.eval = ev e := by
  funext x
  cases x <;> simp [Act.eval, ev, h.get]

theorem Fr.put {a : Act} {e : Env} (h : Fr a n ds e) {d : Nat} (v : Value) (hd : lt' d n = true) : Fr (a.put (some d) v) n ds (upd e d v) := by
  have hlt : d < n := Nat.le_of_ble_eq_true hd
  refine ⟨h.dfr, ?_, ?_⟩
  · simp [Act.put, h.size]
  · intro t
    by_cases e' : t = d
    · subst e'
      rw [upd_same]
      simp [Act.put, Array.getD, h.size, hlt]
    · rw [upd_other _ _ e', ← h.get t]
      simp [Act.put, Array.getD_eq_getD_getElem?, Ne.symm e']

def lift (n : Nat) (ds : List Deferred) (Q : Exit → Env → World → Prop) : Exit → Act → World → Prop :=
  fun x a w => ∃ e, Fr a n ds e ∧ Q x e w

def W (P : Program) (n : Nat) (ds : List Deferred) (c : Code) (Q : Exit → Env → World → Prop) (e : Env) (w : World) : Prop :=
  ∀ a, Fr a n ds e → c.wp P (lift n ds Q) a w

def WL (P : Program) (n : Nat) (ds : List Deferred) (ops : Array Oper) (Q : Exit → Env → World → Prop) (rest : List Oper) (e : Env) (w : World) : Prop :=
  ∀ a, Fr a n ds e → wpList P ops (lift n ds Q) rest a w

def Then (P : Program) (n : Nat) (ds : List Deferred) (c : Code) (Q : Exit → Env → World → Prop) : Exit → Env → World → Prop
  | .normal, e, w => W P n ds c Q e w
  | x, e, w => Q x e w

def Blo (id : Nat) (Q : Exit → Env → World → Prop) : Exit → Env → World → Prop
  | .normal, e, w => Q .normal e w
  | .exit i, e, w => bif Nat.beq i id then Q .normal e w else Q (.exit i) e w
  | x, e, w => Q x e w

theorem W_mono {c : Code} {Q Q' : Exit → Env → World → Prop} {e : Env} {w : World} (h : W P n ds c Q e w) (hq : ∀ x e w, Q x e w → Q' x e w) : W P n ds c Q' e w :=
  fun a ha => wp_mono (h a ha) fun _ _ _ ⟨e', h1, h2⟩ => ⟨e', h1, hq _ _ _ h2⟩

theorem W_skip {Q : Exit → Env → World → Prop} {e : Env} {w : World} (h : Q .normal e w) : W P n ds .skip Q e w := fun _ ha => wp_skip ⟨e, ha, h⟩
theorem W_exit {Q : Exit → Env → World → Prop} {e : Env} {w : World} {i : Nat} (h : Q (.exit i) e w) : W P n ds (.exit i) Q e w := fun _ ha => wp_exit ⟨e, ha, h⟩
theorem W_ret {Q : Exit → Env → World → Prop} {e : Env} {w : World} (h : Q .ret e w) : W P n ds .ret Q e w := fun _ ha => wp_ret ⟨e, ha, h⟩

theorem W_seq {x y : Code} {Q : Exit → Env → World → Prop} {e : Env} {w : World} (h : W P n ds x (Then P n ds y Q) e w) : W P n ds (.seq x y) Q e w := by
  intro a ha
  refine wp_seq (wp_mono (h a ha) ?_)
  intro ex a' w' ⟨e', h1, h2⟩
  cases ex with
  | normal => exact h2 a' h1
  | exit i => exact ⟨e', h1, h2⟩
  | goto i => exact ⟨e', h1, h2⟩
  | ret => exact ⟨e', h1, h2⟩
  | panic c => exact ⟨e', h1, h2⟩
  | outgrown => exact ⟨e', h1, h2⟩

theorem W_cond {c : Operand} {x y : Code} {Q : Exit → Env → World → Prop} {e : Env} {w : World} {b : Bool} (hc : ev e c = .bool b)
    (h1 : b = true → W P n ds x Q e w) (h2 : b = false → W P n ds y Q e w) : W P n ds (.cond c x y) Q e w := by
  intro a ha
  refine wp_cond_split (t := b) (by rw [ha.eval]; exact hc) (fun h => h1 h a ha) (fun h => h2 h a ha)
theorem W_yes {c : Operand} {x y : Code} {Q : Exit → Env → World → Prop} {e : Env} {w : World} (hc : ev e c = .bool true)
    (h1 : W P n ds x Q e w) : W P n ds (.cond c x y) Q e w := W_cond hc (fun _ => h1) (fun h => by cases h)
theorem W_no {c : Operand} {x y : Code} {Q : Exit → Env → World → Prop} {e : Env} {w : World} (hc : ev e c = .bool false)
    (h1 : W P n ds y Q e w) : W P n ds (.cond c x y) Q e w := W_cond hc (fun h => by cases h) (fun _ => h1)

theorem W_block {id : Nat} {c : Code} {Q : Exit → Env → World → Prop} {e : Env} {w : World} (h : W P n ds c (Blo id Q) e w) : W P n ds (.block id c) Q e w := by
  intro a ha
  refine wp_block (wp_mono (h a ha) ?_)
  intro ex a' w' ⟨e', h1, h2⟩
  cases ex with
  | normal => exact ⟨e', h1, h2⟩
  | exit i =>
    by_cases hi : i = id
    · subst hi
      simp only [Exit.inBlock, if_true]
      simp only [Blo, Nat.beq_refl, cond_true] at h2
      exact ⟨e', h1, h2⟩
    · have hb : Nat.beq i id = false := by rw [Bool.eq_false_iff]; intro hb; exact hi (Nat.eq_of_beq_eq_true hb)
      simp only [Exit.inBlock, if_neg hi]
      simp only [Blo, hb, cond_false] at h2
      exact ⟨e', h1, h2⟩
  | goto i => exact ⟨e', h1, h2⟩
  | ret => exact ⟨e', h1, h2⟩
  | panic c => exact ⟨e', h1, h2⟩
  | outgrown => exact ⟨e', h1, h2⟩

/-- Behind a round of a loop. -/
def Rnd (D S : List Nat) (I : Nat → List Value → World → Prop) (m : Nat) (e0 : Env) (Q : Exit → Env → World → Prop) : Exit → Env → World → Prop
  | .normal, e', w' => Agree D e' e0 ∧ ∃ m', m' < m ∧ I m' (S.map e') w'
  | x, e', w' => Q x e' w'
theorem rnd_end {D S : List Nat} {I : Nat → List Value → World → Prop} {m : Nat} {e0 e' : Env} {Q : Exit → Env → World → Prop} {w' : World}
    (ha : Agree D e' e0) (m' : Nat) (hm : m' < m) (hI : I m' (S.map e') w') : Rnd D S I m e0 Q .normal e' w' := ⟨ha, m', hm, hI⟩

/-- The rounds of a loop: S are the slots that the invariant speaks of, D all slots that a round writes; m goes down. -/
theorem W_loop (S D : List Nat) (I : Nat → List Value → World → Prop) {c : Code} {Q : Exit → Env → World → Prop} {e0 : Env} {w : World}
    (h0 : ∃ m, I m (S.map e0) w)
    (h : ∀ m vs w1 u, I m vs w1 → W P n ds c (Rnd D S I m e0 Q) (updL (ov D u e0) S vs) w1) : W P n ds (.loop c) Q e0 w := by
  intro a ha b k cs
  have key : ∀ m a' w' e', Fr a' n ds e' → Agree D e' e0 → I m (S.map e') w' →
      ∃ ex a'' w'', lift n ds Q ex a'' w'' ∧ Arrives P (lone (b.at a' (.code c :: .inLoop c :: k)) cs w') b k cs ex a'' w'' := by
    intro m
    induction m using Nat.strongRecOn with
    | _ m ih =>
      intro a' w' e' hf hag hI
      have hr := h m (S.map e') w' e' hI
      rw [← env_norm hag] at hr
      obtain ⟨ex, a₁, w₁, ⟨e₁, hf₁, hq⟩, harr⟩ := hr a' hf b (.inLoop c :: k) cs
      cases ex with
      | normal =>
        obtain ⟨hag₁, m', hm, hI₁⟩ := hq
        obtain ⟨e₂, a₂, w₂, hq₂, harr₂⟩ := ih m' hm a₁ w₁ e₁ hf₁ hag₁ hI₁
        exact ⟨e₂, a₂, w₂, hq₂, .of_steps (Steps.trans harr (.one step_inLoop)) harr₂⟩
      | exit id => exact ⟨_, a₁, w₁, ⟨e₁, hf₁, hq⟩, .pass (x := .inLoop c) rfl (fun _ _ => .inl (by simp)) harr⟩
      | goto l => exact ⟨_, a₁, w₁, ⟨e₁, hf₁, hq⟩, .pass (x := .inLoop c) rfl (fun _ _ => .inl (by simp)) harr⟩
      | ret => exact ⟨_, a₁, w₁, ⟨e₁, hf₁, hq⟩, .pass (x := .inLoop c) rfl (fun _ _ => .inl (by simp)) harr⟩
      | panic ch => exact ⟨_, a₁, w₁, ⟨e₁, hf₁, hq⟩, .pass (x := .inLoop c) rfl (fun _ _ => .inl (by simp)) harr⟩
      | outgrown => exact ⟨_, a₁, w₁, ⟨e₁, hf₁, hq⟩, .pass (x := .inLoop c) rfl (fun _ _ => .inl (by simp)) harr⟩
  obtain ⟨m, hm⟩ := h0
  obtain ⟨e, a', w', hq, harr⟩ := key m a w e0 ha (agree_refl _ _) hm
  exact ⟨e, a', w', hq, .of_steps (.one step_loop) harr⟩

/-- Behind a cut. -/
def Cut (D S : List Nat) (J : List Value → World → Prop) (e0 : Env) (Q : Exit → Env → World → Prop) : Exit → Env → World → Prop
  | .normal, e', w' => Agree D e' e0 ∧ J (S.map e') w'
  | x, e', w' => Q x e' w'
theorem cut_end {D S : List Nat} {J : List Value → World → Prop} {e0 e' : Env} {Q : Exit → Env → World → Prop} {w' : World}
    (ha : Agree D e' e0) (hJ : J (S.map e') w') : Cut D S J e0 Q .normal e' w' := ⟨ha, hJ⟩

/-- The ways through x meet again: of the slots D all is forgotten but what J says of those of S. -/
theorem W_cut (S D : List Nat) (J : List Value → World → Prop) {x y : Code} {Q : Exit → Env → World → Prop} {e0 : Env} {w : World}
    (h1 : W P n ds x (Cut D S J e0 Q) e0 w)
    (h2 : ∀ vs w1 u, J vs w1 → W P n ds y Q (updL (ov D u e0) S vs) w1) : W P n ds (.seq x y) Q e0 w := by
  refine W_seq (W_mono h1 ?_)
  intro ex e' w' hq
  cases ex with
  | normal =>
    obtain ⟨hag, hJ⟩ := hq
    have := h2 (S.map e') w' e' hJ
    rw [← env_norm hag] at this
    exact this
  | exit id => exact hq
  | goto l => exact hq
  | ret => exact hq
  | panic ch => exact hq
  | outgrown => exact hq

/-! ### regions -/

theorem W_region {id : Nat} {l : List Oper} {Q : Exit → Env → World → Prop} {e : Env} {w : World} (h : WL P n ds l.toArray Q l e w) : W P n ds (.region id l.toArray false) Q e w :=
  fun a ha => wp_region_lit (h a ha)

variable {ops : Array Oper} {Q : Exit → Env → World → Prop} {rest : List Oper} {o : Oper} {e : Env} {w w' : World} {d j d' : Nat} {v : Value} {b : Bool}

theorem WL_nil (h : Q .normal e w) : WL P n ds ops Q [] e w := fun _ ha => wpList_nil ⟨e, ha, h⟩

/-- The operation yields v, and leaves the world w'. -/
def St (P : Program) (o : Oper) (e : Env) (w : World) (v : Value) (w' : World) : Prop := (execOp (ev e) o).run P w = .ok (.value v) w'
/-- The operation yields nothing, and leaves the world w'. -/
def Su (P : Program) (o : Oper) (e : Env) (w w' : World) : Prop := (execOp (ev e) o).run P w = .ok .skip w'

theorem wanted_none {ops : Array Oper} {o : Oper} {ts : Array Value} (hg : o.guard = none) : Region.wanted o (yielded ops ts) = true := by simp [Region.wanted, hg]

theorem yielded_of {a : Act} (ha : Fr a n ds e) (hj : (ops[j]?).bind (·.dst) = some d') (hn : lt' d' n = true) (hb : e d' = .bool b) : yielded ops a.tmps j = some b := by
  have hlt : d' < n := Nat.le_of_ble_eq_true hn
  have hs : d' < a.tmps.size := by rw [ha.size]; exact hlt
  have h1 : a.tmps[d']? = some (.bool b) := by
    have h2 := ha.get d'
    rw [hb, Array.getD_eq_getD_getElem?, Array.getElem?_eq_getElem hs] at h2
    rw [Array.getElem?_eq_getElem hs]
    simpa using h2
  simp only [yielded, hj, Option.bind_some, h1]

theorem yielded_undef {a : Act} (ha : Fr a n ds e) (hj : (ops[j]?).bind (·.dst) = some d') (hb : e d' = undef) : yielded ops a.tmps j = none := by
  have h2 := ha.get d'
  rw [hb, Array.getD_eq_getD_getElem?] at h2
  simp only [yielded, hj, Option.bind_some]
  cases hc : a.tmps[d']? with
  | none => rfl
  | some x => rw [hc] at h2; simp only [Option.getD_some] at h2; subst h2; rfl

theorem wanted_some {a : Act} (ha : Fr a n ds e) (hg : o.guard = some (j, b)) (hj : (ops[j]?).bind (·.dst) = some d') (hn : lt' d' n = true) (hb : e d' = .bool b) : Region.wanted o (yielded ops a.tmps) = true := by
  simp [Region.wanted, hg, yielded_of ha hj hn hb]

theorem wpList_go {a : Act} {Q : Exit → Act → World → Prop} (hw : Region.wanted o (yielded ops a.tmps) = true) (h : o.wp P a w (wpList P ops Q rest) Q) : wpList P ops Q (o :: rest) a w := by
  unfold wpList
  rw [if_pos hw]
  exact .inl h

theorem wp_val {a : Act} {K : Act → World → Prop} {Q : Exit → Act → World → Prop} (ha : Fr a n ds e) (hr : St P o e w v w') (k : K (a.put o.dst v) w') : o.wp P a w K Q := by
  unfold Oper.wp
  rw [ha.eval, hr]
  exact k

theorem WL_val (hg : o.guard = none) (hd : o.dst = some d) (hn : lt' d n = true) (hr : St P o e w v w') (k : WL P n ds ops Q rest (upd e d v) w') : WL P n ds ops Q (o :: rest) e w :=
  fun _ ha => wpList_go (wanted_none hg) (wp_val ha hr (by rw [hd]; exact k _ (ha.put v hn)))

theorem WL_valg (hg : o.guard = some (j, b)) (hj : (ops[j]?).bind (·.dst) = some d') (hn' : lt' d' n = true) (hb : e d' = .bool b)
    (hd : o.dst = some d) (hn : lt' d n = true) (hr : St P o e w v w') (k : WL P n ds ops Q rest (upd e d v) w') : WL P n ds ops Q (o :: rest) e w :=
  fun _ ha => wpList_go (wanted_some ha hg hj hn' hb) (wp_val ha hr (by rw [hd]; exact k _ (ha.put v hn)))

/-- A guarded operation is passed over. -/
theorem WL_pass (hg : o.guard = some (j, b)) (hj : (ops[j]?).bind (·.dst) = some d') (hn' : lt' d' n = true) (hb : e d' = .bool (!b))
    (hd : o.dst = some d) (hn : lt' d n = true) (k : WL P n ds ops Q rest (upd e d undef) w) : WL P n ds ops Q (o :: rest) e w := by
  intro a ha
  refine wpList_skip (by simp [Region.wanted, hg, yielded_of ha hj hn' hb]) ?_
  rw [hd]; exact k _ (ha.put _ hn)
theorem WL_passu (hg : o.guard = some (j, b)) (hj : (ops[j]?).bind (·.dst) = some d') (hb : e d' = undef)
    (hd : o.dst = some d) (hn : lt' d n = true) (k : WL P n ds ops Q rest (upd e d undef) w) : WL P n ds ops Q (o :: rest) e w := by
  intro a ha
  refine wpList_skip (by simp [Region.wanted, hg, yielded_undef ha hj hb]) ?_
  rw [hd]; exact k _ (ha.put _ hn)

theorem WL_do (hg : o.guard = none) (hd : o.dst = none) (hr : Su P o e w w') (k : WL P n ds ops Q rest e w') : WL P n ds ops Q (o :: rest) e w := by
  refine fun a ha => wpList_go (wanted_none hg) ?_
  unfold Oper.wp
  rw [ha.eval, hr, Oper.upon_skip, hd]
  exact k _ ha

/-- Part the ways on a Bool in a slot. -/
theorem WL_split {l : List Oper} (d' : Nat) (_hb : e d' = .bool b) (h1 : b = true → WL P n ds ops Q l e w) (h2 : b = false → WL P n ds ops Q l e w) : WL P n ds ops Q l e w := by
  cases b
  · exact h2 rfl
  · exact h1 rfl

/-! ### calls -/

def IsGo (P : Program) (f : FuncId) : Prop := ∃ fn, P.funcs[f]? = some fn ∧ fn.body.isNone = false ∧ (fn.name == "runtime.NumGoroutine") = false

/-- f is a Go function; called with these in this world it returns, and R holds of what it returns and of the world then. -/
def Fun (P : Program) (f : FuncId) (as : List Value) (w : World) (R : Value → World → Prop) : Prop :=
  IsGo P f ∧ Calls P f as.toArray w fun x w' => ∃ v, x = .returned v ∧ R v w'

theorem Fun.mono {f : FuncId} {as : List Value} {R R' : Value → World → Prop} (h : Fun P f as w R) (hr : ∀ v w', R v w' → R' v w') : Fun P f as w R' :=
  ⟨h.1, h.2.mono fun _ _ ⟨v, h1, h2⟩ => ⟨v, h1, hr _ _ h2⟩⟩

theorem run_callFunc {f : FuncId} (hf : IsGo P f) (args : Array Value) (w : World) : (callFunc f args).run P w = .ok (.enter f args) w := by
  obtain ⟨fn, h1, h2, h3⟩ := hf
  have h2' : ¬ (fn.body.isNone = true) := by rw [h2]; exact Bool.false_ne_true
  have h3' : ¬ ((fn.name == "runtime.NumGoroutine") = true) := by rw [h3]; exact Bool.false_ne_true
  show Sem.run P (match P.funcs[f]? with
    | none => stuck "call: no such function"
    | some fn => _) w = _
  rw [h1]
  dsimp only
  rw [if_neg h3', if_neg h2']
  rfl

theorem wp_call {a : Act} {K : Act → World → Prop} {Q : Exit → Act → World → Prop} {f : FuncId} {as : List Value} {R : Value → World → Prop}
    (ha : Fr a n ds e) (ho : (execOp (ev e) o).run P w = .ok (.enter f as.toArray) w) (hc : Fun P f as w R) (k : ∀ v w', R v w' → K (a.put o.dst v) w') : o.wp P a w K Q := by
  unfold Oper.wp
  rw [ha.eval, ho, Oper.upon_enter]
  refine hc.2.mono ?_
  rintro x w' ⟨v, rfl, hR⟩
  exact k v w' hR

/-- What is called, and with what. -/
def Ent (P : Program) (o : Oper) (e : Env) (w : World) (f : FuncId) (as : List Value) : Prop := (execOp (ev e) o).run P w = .ok (.enter f as.toArray) w

theorem WL_call {f : FuncId} {as : List Value} {R : Value → World → Prop} (hg : o.guard = none) (hd : o.dst = some d) (hn : lt' d n = true)
    (hc : Fun P f as w R) (ho : IsGo P f → Ent P o e w f as) (k : ∀ v w', R v w' → WL P n ds ops Q rest (upd e d v) w') : WL P n ds ops Q (o :: rest) e w :=
  fun _ ha => wpList_go (wanted_none hg) (wp_call ha (ho hc.1) hc fun v w' hR => by rw [hd]; exact k v w' hR _ (ha.put v hn))

theorem WL_callg {f : FuncId} {as : List Value} {R : Value → World → Prop} (hg : o.guard = some (j, b)) (hj : (ops[j]?).bind (·.dst) = some d') (hn' : lt' d' n = true) (hb : e d' = .bool b)
    (hd : o.dst = some d) (hn : lt' d n = true)
    (hc : Fun P f as w R) (ho : IsGo P f → Ent P o e w f as) (k : ∀ v w', R v w' → WL P n ds ops Q rest (upd e d v) w') : WL P n ds ops Q (o :: rest) e w :=
  fun _ ha => wpList_go (wanted_some ha hg hj hn' hb) (wp_call ha (ho hc.1) hc fun v w' hR => by rw [hd]; exact k v w' hR _ (ha.put v hn))

theorem ent_go {f : FuncId} {as : List Value} {xs : List Operand} {dst : Option Tmp} {ats : Array TypeId} {ty : TypeId} {pos : String} {after : Array Edge} {g : Option (Nat × Bool)}
    (hx : evs e xs = as) (hf : IsGo P f) :
    Ent P { dst, op := .call { callee := .value (.func f), args := xs.toArray, argTypes := ats }, type := ty, pos, after, guard := g } e w f as := by
  unfold Ent
  have h1 : execOp (ev e) { dst, op := .call { callee := .value (.func f), args := xs.toArray, argTypes := ats }, type := ty, pos, after, guard := g } = callFunc f (#[] ++ xs.toArray.map (ev e) ++ #[]) := rfl
  rw [h1, run_callFunc hf]
  subst hx
  simp [evs_eq]

/-- A call through a function value. -/
theorem ent_val {f : FuncId} {as fs cs : List Value} {t : Operand} {xs : List Operand} {dst : Option Tmp} {ats : Array TypeId} {ty : TypeId} {pos : String} {after : Array Edge} {g : Option (Nat × Bool)}
    (ht : ev e t = .func (.func f) fs.toArray cs.toArray) (hx : fs ++ evs e xs ++ cs = as) (hf : IsGo P f) :
    Ent P { dst, op := .call { callee := .value t, args := xs.toArray, argTypes := ats }, type := ty, pos, after, guard := g } e w f as := by
  unfold Ent
  have h1 : execOp (ev e) { dst, op := .call { callee := .value t, args := xs.toArray, argTypes := ats }, type := ty, pos, after, guard := g } =
      (Deferred.ofValue (ev e t) (xs.toArray.map (ev e))).bind fun d => invoke d.target d.args := rfl
  rw [h1, ht]
  simp only [Deferred.ofValue]
  show (callFunc f (fs.toArray ++ xs.toArray.map (ev e) ++ cs.toArray)).run P w = _
  rw [run_callFunc hf]
  subst hx
  simp [evs_eq]

/-! ### regions that draw their order, and only read -/

def WQ (P : Program) (n : Nat) (ds : List Deferred) (ops : Array Oper) (C : World → Prop) (Qq : Env → Prop) (rest : List Oper) (e : Env) : Prop :=
  ∀ a, Fr a n ds e → wpQuiet P ops C (fun a' => ∃ e', Fr a' n ds e' ∧ Qq e') rest a

theorem wpQuiet_mono' {C : World → Prop} {K K' : Act → Prop} (hk : ∀ a, K a → K' a) : ∀ (l : List Oper) (a : Act), wpQuiet P ops C K l a → wpQuiet P ops C K' l a
  | [], _, h => hk _ h
  | o :: l, a, h => by
    have h' : if Region.wanted o (yielded ops a.tmps) = true then Oper.quiet P o a C (wpQuiet P ops C K l) else wpQuiet P ops C K l (a.put o.dst undef) := h
    show if Region.wanted o (yielded ops a.tmps) = true then Oper.quiet P o a C (wpQuiet P ops C K' l) else wpQuiet P ops C K' l (a.put o.dst undef)
    split
    · rename_i hw; rw [if_pos hw] at h'; exact Oper.quiet_mono (fun a hh => wpQuiet_mono' hk l a hh) h'
    · rename_i hw; rw [if_neg hw] at h'; exact wpQuiet_mono' hk l _ h'

theorem W_quiet {id : Nat} {l : List Oper} (C : World → Prop) (hm : P.follows .mixedOrders = true) (hB : Region.lexB .any l.toArray = true) (hC : C { w with drawn := w.drawn + 1 })
    (h : WQ P n ds l.toArray C (fun e' => ∀ w', C w' → Q .normal e' w') l e) : W P n ds (.region id l.toArray true) Q e w := by
  intro a ha
  refine wp_region_quiet (C := C) hm hB hC ?_
  exact wpQuiet_mono' (fun a' ⟨e', hf, hq⟩ w' hw' => ⟨e', hf, hq w' hw'⟩) _ _ (h a ha)

variable {C : World → Prop} {Qq : Env → Prop}

theorem WQ_nil (h : Qq e) : WQ P n ds ops C Qq [] e := fun _ ha => ⟨e, ha, h⟩

theorem WQ_val (hg : o.guard = none) (hd : o.dst = some d) (hn : lt' d n = true) (hr : ∀ w, C w → St P o e w v w) (k : WQ P n ds ops C Qq rest (upd e d v)) : WQ P n ds ops C Qq (o :: rest) e := by
  intro a ha
  unfold wpQuiet
  rw [if_pos (wanted_none hg)]
  refine ⟨v, fun w hw => ?_, by rw [hd]; exact k _ (ha.put v hn)⟩
  unfold Oper.quietAt
  rw [ha.eval, hr w hw]
  exact ⟨rfl, rfl⟩
theorem WQ_valg (hg : o.guard = some (j, b)) (hj : (ops[j]?).bind (·.dst) = some d') (hn' : lt' d' n = true) (hb : e d' = .bool b)
    (hd : o.dst = some d) (hn : lt' d n = true) (hr : ∀ w, C w → St P o e w v w) (k : WQ P n ds ops C Qq rest (upd e d v)) : WQ P n ds ops C Qq (o :: rest) e := by
  intro a ha
  unfold wpQuiet
  rw [if_pos (wanted_some ha hg hj hn' hb)]
  refine ⟨v, fun w hw => ?_, by rw [hd]; exact k _ (ha.put v hn)⟩
  unfold Oper.quietAt
  rw [ha.eval, hr w hw]
  exact ⟨rfl, rfl⟩
theorem WQ_pass (hg : o.guard = some (j, b)) (hj : (ops[j]?).bind (·.dst) = some d') (hn' : lt' d' n = true) (hb : e d' = .bool (!b))
    (hd : o.dst = some d) (hn : lt' d n = true) (k : WQ P n ds ops C Qq rest (upd e d undef)) : WQ P n ds ops C Qq (o :: rest) e := by
  intro a ha
  unfold wpQuiet
  rw [if_neg (by simp [Region.wanted, hg, yielded_of ha hj hn' hb]), hd]
  exact k _ (ha.put _ hn)
theorem WQ_passu (hg : o.guard = some (j, b)) (hj : (ops[j]?).bind (·.dst) = some d') (hb : e d' = undef)
    (hd : o.dst = some d) (hn : lt' d n = true) (k : WQ P n ds ops C Qq rest (upd e d undef)) : WQ P n ds ops C Qq (o :: rest) e := by
  intro a ha
  unfold wpQuiet
  rw [if_neg (by simp [Region.wanted, hg, yielded_undef ha hj hb]), hd]
  exact k _ (ha.put _ hn)

theorem WQ_split {l : List Oper} (d' : Nat) (_hb : e d' = .bool b) (h1 : b = true → WQ P n ds ops C Qq l e) (h2 : b = false → WQ P n ds ops C Qq l e) : WQ P n ds ops C Qq l e := by
  cases b
  · exact h2 rfl
  · exact h1 rfl

theorem quiet_call {a : Act} {f : FuncId} {as : List Value} (ha : Fr a n ds e) (hc : ∀ w, C w → Fun P f as w (fun u w' => u = v ∧ C w')) (ho : IsGo P f → ∀ w, Ent P o e w f as) (w : World) (hw : C w) : o.quietAt P a C w v := by
  unfold Oper.quietAt
  rw [ha.eval, ho (hc w hw).1 w]
  refine ⟨rfl, (hc w hw).2.mono ?_⟩
  rintro x w' ⟨u, rfl, rfl, hC⟩
  exact ⟨rfl, hC⟩
theorem WQ_call {f : FuncId} {as : List Value} (hg : o.guard = none) (hd : o.dst = some d) (hn : lt' d n = true)
    (hc : ∀ w, C w → Fun P f as w (fun u w' => u = v ∧ C w')) (ho : IsGo P f → ∀ w, Ent P o e w f as) (k : WQ P n ds ops C Qq rest (upd e d v)) : WQ P n ds ops C Qq (o :: rest) e := by
  intro a ha
  unfold wpQuiet
  rw [if_pos (wanted_none hg)]
  exact ⟨v, quiet_call ha hc ho, by rw [hd]; exact k _ (ha.put v hn)⟩
theorem WQ_callg {f : FuncId} {as : List Value} (hg : o.guard = some (j, b)) (hj : (ops[j]?).bind (·.dst) = some d') (hn' : lt' d' n = true) (hb : e d' = .bool b)
    (hd : o.dst = some d) (hn : lt' d n = true)
    (hc : ∀ w, C w → Fun P f as w (fun u w' => u = v ∧ C w')) (ho : IsGo P f → ∀ w, Ent P o e w f as) (k : WQ P n ds ops C Qq rest (upd e d v)) : WQ P n ds ops C Qq (o :: rest) e := by
  intro a ha
  unfold wpQuiet
  rw [if_pos (wanted_some ha hg hj hn' hb)]
  exact ⟨v, quiet_call ha hc ho, by rw [hd]; exact k _ (ha.put v hn)⟩

/-! ### regions that draw their order: what only reads, then a tail in one order -/

def WS (P : Program) (n : Nat) (ds : List Deferred) (ops : Array Oper) (w : World) (Qq : Env → Prop) (rest : List Oper) (e : Env) : Prop :=
  ∀ a, Fr a n ds e → wpStill P ops w (fun a' => ∃ e', Fr a' n ds e' ∧ Qq e') rest a

theorem wpStill_mono {K K' : Act → Prop} (hk : ∀ a, K a → K' a) : ∀ (l : List Oper) (a : Act), wpStill P ops w K l a → wpStill P ops w K' l a
  | [], _, h => hk _ h
  | o :: l, a, h => by
    have h' : if Region.wanted o (yielded ops a.tmps) = true then Oper.still P o a w (wpStill P ops w K l) else wpStill P ops w K l (a.put o.dst undef) := h
    show if Region.wanted o (yielded ops a.tmps) = true then Oper.still P o a w (wpStill P ops w K' l) else wpStill P ops w K' l (a.put o.dst undef)
    split
    · rename_i hw; rw [if_pos hw] at h'
      unfold Oper.still at *
      generalize (execOp a.eval o).run P w = r at *
      cases r with
      | ok nx w' =>
        cases nx <;> simp only [Oper.stillUpon] at h' ⊢
        case value u => exact ⟨h'.1, wpStill_mono hk l _ h'.2⟩
        case skip => exact ⟨h'.1, wpStill_mono hk l _ h'.2⟩
        case enter f args => obtain ⟨h1, v, h2, h3⟩ := h'; exact ⟨h1, v, h2, wpStill_mono hk l _ h3⟩
      | halt x w' => simp only [Oper.stillUpon] at h'
    · rename_i hw; rw [if_neg hw] at h'; exact wpStill_mono hk l _ h'

theorem W_tail {id : Nat} {l : List Oper} (k : Nat) (hm : P.follows .mixedOrders = true) (hB : Region.lexTailB .any l.toArray k = true)
    (h : WS P n ds l.toArray { w with drawn := w.drawn + 1 } (fun e' => WL P n ds l.toArray Q (l.drop k) e' { w with drawn := w.drawn + 1 }) (l.take k) e) : W P n ds (.region id l.toArray true) Q e w := by
  intro a ha
  refine wp_region_still_tail k hm hB ?_
  exact wpStill_mono (fun a' ⟨e', hf, hq⟩ => hq a' hf) _ _ (h a ha)

theorem WS_nil (h : Qq e) : WS P n ds ops w Qq [] e := fun _ ha => ⟨e, ha, h⟩
theorem still_val {a : Act} {K : Act → Prop} (ha : Fr a n ds e) (hr : St P o e w v w) (k : K (a.put o.dst v)) : o.still P a w K := by
  unfold Oper.still
  rw [ha.eval, hr]
  exact ⟨rfl, k⟩
theorem WS_val (hg : o.guard = none) (hd : o.dst = some d) (hn : lt' d n = true) (hr : St P o e w v w) (k : WS P n ds ops w Qq rest (upd e d v)) : WS P n ds ops w Qq (o :: rest) e := by
  intro a ha
  unfold wpStill
  rw [if_pos (wanted_none hg)]
  exact still_val ha hr (by rw [hd]; exact k _ (ha.put v hn))
theorem WS_valg (hg : o.guard = some (j, b)) (hj : (ops[j]?).bind (·.dst) = some d') (hn' : lt' d' n = true) (hb : e d' = .bool b)
    (hd : o.dst = some d) (hn : lt' d n = true) (hr : St P o e w v w) (k : WS P n ds ops w Qq rest (upd e d v)) : WS P n ds ops w Qq (o :: rest) e := by
  intro a ha
  unfold wpStill
  rw [if_pos (wanted_some ha hg hj hn' hb)]
  exact still_val ha hr (by rw [hd]; exact k _ (ha.put v hn))
theorem WS_pass (hg : o.guard = some (j, b)) (hj : (ops[j]?).bind (·.dst) = some d') (hn' : lt' d' n = true) (hb : e d' = .bool (!b))
    (hd : o.dst = some d) (hn : lt' d n = true) (k : WS P n ds ops w Qq rest (upd e d undef)) : WS P n ds ops w Qq (o :: rest) e := by
  intro a ha
  unfold wpStill
  rw [if_neg (by simp [Region.wanted, hg, yielded_of ha hj hn' hb]), hd]
  exact k _ (ha.put _ hn)
theorem WS_passu (hg : o.guard = some (j, b)) (hj : (ops[j]?).bind (·.dst) = some d') (hb : e d' = undef)
    (hd : o.dst = some d) (hn : lt' d n = true) (k : WS P n ds ops w Qq rest (upd e d undef)) : WS P n ds ops w Qq (o :: rest) e := by
  intro a ha
  unfold wpStill
  rw [if_neg (by simp [Region.wanted, hg, yielded_undef ha hj hb]), hd]
  exact k _ (ha.put _ hn)
theorem WS_split {l : List Oper} (d' : Nat) (_hb : e d' = .bool b) (h1 : b = true → WS P n ds ops w Qq l e) (h2 : b = false → WS P n ds ops w Qq l e) : WS P n ds ops w Qq l e := by
  cases b
  · exact h2 rfl
  · exact h1 rfl

/-! ### a function -/

def QR0 (R : Value → World → Prop) : Exit → Env → World → Prop
  | .normal, _, w | .ret, _, w => R (.tuple #[]) w
  | _, _, _ => False
def QR1 (t : Nat) (R : Value → World → Prop) : Exit → Env → World → Prop
  | .normal, e, w | .ret, e, w => R (e t) w
  | _, _, _ => False
def QR2 (t u : Nat) (R : Value → World → Prop) : Exit → Env → World → Prop
  | .normal, e, w | .ret, e, w => R (.tuple #[e t, e u]) w
  | _, _, _ => False
def QR3 (t u s : Nat) (R : Value → World → Prop) : Exit → Env → World → Prop
  | .normal, e, w | .ret, e, w => R (.tuple #[e t, e u, e s]) w
  | _, _, _ => False

theorem qr0 {R : Value → World → Prop} (h : R (.tuple #[]) w) : QR0 R .normal e w := h
theorem qr0r {R : Value → World → Prop} (h : R (.tuple #[]) w) : QR0 R .ret e w := h
theorem qr1 {R : Value → World → Prop} {t : Nat} (h : R (e t) w) : QR1 t R .ret e w := h
theorem qr2 {R : Value → World → Prop} {t u : Nat} (h : R (.tuple #[e t, e u]) w) : QR2 t u R .ret e w := h
theorem qr3 {R : Value → World → Prop} {t u s : Nat} (h : R (.tuple #[e t, e u, e s]) w) : QR3 t u s R .ret e w := h

theorem fr_start {as : List Value} (hn : as.length ≤ n) : Fr { tmps := as.toArray ++ Array.replicate (n - as.toArray.size) undef, defers := [] } n [] (env0 as) := by
  refine ⟨rfl, by simp; omega, fun t => ?_⟩
  simp only [env0, Array.getD_eq_getD_getElem?, List.getD_eq_getElem?_getD, Array.getElem?_append, List.size_toArray, Array.getElem?_replicate, List.getElem?_toArray]
  by_cases h : t < as.length
  · simp [h]
  · simp only [h, if_false]
    rw [List.getElem?_eq_none (by omega)]
    split <;> rfl

theorem fun_of {f : FuncId} {fn : Func} {c : Code} {as : List Value} {R : Value → World → Prop} (hf : P.funcs[f]? = some fn) (hb : fn.body = some c) (hname : (fn.name == "runtime.NumGoroutine") = false)
    (hnt : fn.ntmps = n) (hn : Nat.ble as.length n = true) {Q : Exit → Env → World → Prop}
    (hQ : ∀ x a e w, Fr a n [] e → Q x e w → bodyPost P fn (fun x w' => ∃ v, x = .returned v ∧ R v w') x a w)
    (h : W P n [] c Q (env0 as) w) : Fun P f as w R := by
  refine ⟨⟨fn, hf, by rw [hb]; rfl, hname⟩, calls_of_wp hf hb ?_⟩
  rw [hnt]
  refine wp_mono (h _ (fr_start (Nat.le_of_ble_eq_true hn))) ?_
  intro x a w' ⟨e', h1, h2⟩
  exact hQ _ _ _ _ h1 h2

theorem fun0 {f : FuncId} {fn : Func} {c : Code} {as : List Value} {R : Value → World → Prop} (hf : P.funcs[f]? = some fn) (hb : fn.body = some c) (hname : (fn.name == "runtime.NumGoroutine") = false)
    (hnt : fn.ntmps = n) (hr : fn.results = #[]) (hn : Nat.ble as.length n = true) (h : W P n [] c (QR0 R) (env0 as) w) : Fun P f as w R := by
  refine fun_of hf hb hname hnt hn ?_ h
  intro x a e w' hf hq
  cases x <;> first | exact hq.elim | exact ⟨hf.dfr, _, results_none hr _ _ _, _, rfl, hq⟩
theorem fun1 {f : FuncId} {fn : Func} {c : Code} {as : List Value} {R : Value → World → Prop} {t : Nat} (hf : P.funcs[f]? = some fn) (hb : fn.body = some c) (hname : (fn.name == "runtime.NumGoroutine") = false)
    (hnt : fn.ntmps = n) (hr : fn.results = #[.tmp t]) (hn : Nat.ble as.length n = true) (h : W P n [] c (QR1 t R) (env0 as) w) : Fun P f as w R := by
  refine fun_of hf hb hname hnt hn ?_ h
  intro x a e w' hf hq
  cases x <;> first | exact hq.elim | exact ⟨hf.dfr, _, results_tmp hr _ _ _, _, rfl, by rw [hf.get]; exact hq⟩
theorem fun2 {f : FuncId} {fn : Func} {c : Code} {as : List Value} {R : Value → World → Prop} {t u : Nat} (hf : P.funcs[f]? = some fn) (hb : fn.body = some c) (hname : (fn.name == "runtime.NumGoroutine") = false)
    (hnt : fn.ntmps = n) (hr : fn.results = #[.tmp t, .tmp u]) (hn : Nat.ble as.length n = true) (h : W P n [] c (QR2 t u R) (env0 as) w) : Fun P f as w R := by
  refine fun_of hf hb hname hnt hn ?_ h
  intro x a e w' hf hq
  cases x <;> first | exact hq.elim | exact ⟨hf.dfr, _, results_tmp2 hr _ _ _, _, rfl, by rw [hf.get, hf.get]; exact hq⟩
theorem fun3 {f : FuncId} {fn : Func} {c : Code} {as : List Value} {R : Value → World → Prop} {t u s : Nat} (hf : P.funcs[f]? = some fn) (hb : fn.body = some c) (hname : (fn.name == "runtime.NumGoroutine") = false)
    (hnt : fn.ntmps = n) (hr : fn.results = #[.tmp t, .tmp u, .tmp s]) (hn : Nat.ble as.length n = true) (h : W P n [] c (QR3 t u s R) (env0 as) w) : Fun P f as w R := by
  refine fun_of hf hb hname hnt hn ?_ h
  intro x a e w' hf hq
  cases x <;> first | exact hq.elim | exact ⟨hf.dfr, _, results_tmp3 hr _ _ _, _, rfl, by rw [hf.get, hf.get, hf.get]; exact hq⟩
end
attribute [irreducible] W WL WQ WS Fun St Su Ent QR0 QR1 QR2 QR3
end Go.Proofs.YtndfhicdabdafaaDoor
