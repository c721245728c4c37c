/- Regions that draw their order, with calls, new blocks and stores among what reads: what reads what stands is taken first. -/
import Derived.Test.YtndfhicdabdafaaDoorKb
import Derived.OrdersHeld
namespace Go.Proofs.YtndfhicdabdafaaDoor
open Go Go.RowKit

section
variable {P : Program} {ops : Array Oper} {Q : Exit → Act → World → Prop} {S : World → Prop} {z : Nat}
/-- Whatever order is drawn from here on; S holds behind every operation but number z. -/
def AnyE (P : Program) (ops : Array Oper) (Q : Exit → Act → World → Prop) (S : World → Prop) (z : Nat) : Nat → Array Bool → Act → World → Prop
  | 0, l, a, w => Region.ready .any ops l = [] ∧ Q .normal a w
  | k + 1, l, a, w => (Region.ready .any ops l = [] → Q .normal a w) ∧
    ∀ i ∈ Region.ready .any ops l, wpOp P ops Q i (fun a' w' => (i ≠ z → S w') ∧ AnyE P ops Q S z k (l.setIfInBounds i true) a' w') a w
theorem AnyE.any : ∀ (k : Nat) (l : Array Bool) (a : Act) (w : World), AnyE P ops Q S z k l a w → wpAny P .any ops Q k l a w
  | 0, _, _, _, h => h
  | k + 1, _, _, _, h => ⟨h.1, fun i hi => wpOp_mono (fun a' w' h' => AnyE.any k _ a' w' h'.2) (h.2 i hi)⟩
/-- Does number z wait for number i? -/
def waits (ops : Array Oper) (z i : Nat) : Bool := match ops[z]? with
  | some o => o.after.any fun e => Region.binds .any e && (e.on == i)
  | none => true
theorem not_ready_of_waits {i : Nat} {l : Array Bool} (h : waits ops z i = true) (hi : i ∈ Region.ready .any ops l) : z ∉ Region.ready .any ops l := by
  intro hz
  obtain ⟨_, o, ho, hall⟩ := mem_ready.1 hz
  have h0 := (mem_ready.1 hi).1
  unfold waits at h
  rw [ho] at h
  dsimp only at h
  obtain ⟨e, he, hb⟩ := Array.any_eq_true'.1 h
  rw [Bool.and_eq_true, beq_iff_eq] at hb
  have h1 := hall e he hb.1
  rw [hb.2] at h1
  rcases Nat.lt_or_ge i l.size with h' | h'
  · simp [h'] at h0 h1; rw [h0] at h1; cases h1
  · simp [Array.getElem?_eq_none h'] at h1
theorem AnyE.take {i : Nat} {oi : Oper} {v : Value} (hi : ops[i]? = some oi) (hs : Region.noSelect ops = true) (hz : waits ops z i = true) (hQ : ∀ c a w, Q (.panic c) (a.put oi.dst v) w → Q (.panic c) a w) :
    ∀ (k : Nat) (l : Array Bool) (a : Act) (w : World), (∀ j oj, ops[j]? = some oj → j ≠ i → l.getD j true = false → (∀ e ∈ oj.after, Region.binds .any e = true → e.on ≠ i) → oi.apart ops oj = true) →
      i ∈ Region.ready .any ops l → YieldsIf P ops S oi v a → S w → AnyE P ops Q S z k (l.setIfInBounds i true) (a.put oi.dst v) w → AnyE P ops Q S z (k + 1) l a w := by
  intro k
  induction k with
  | zero =>
    intro l a w _ hr hy hS H
    refine ⟨fun h => absurd hr (by rw [h]; exact List.not_mem_nil), fun j hj => ?_⟩
    rcases Decidable.em (j = i) with rfl | hne
    · exact hy.wpOp hi hS ⟨fun _ => hS, H⟩
    · exact absurd (ready_mono hj hne) (by rw [H.1]; exact List.not_mem_nil)
  | succ k ih =>
    intro l a w hfree hr hy hS H
    refine ⟨fun h => absurd hr (by rw [h]; exact List.not_mem_nil), fun j hj => ?_⟩
    rcases Decidable.em (j = i) with rfl | hne
    · exact hy.wpOp hi hS ⟨fun _ => hS, H⟩
    · have hjz : j ≠ z := fun e => not_ready_of_waits hz hr (e ▸ hj)
      have h1 := H.2 j (ready_mono hj hne)
      obtain ⟨hun, oj, hoj, hall⟩ := mem_ready.1 hj
      have h0 := (mem_ready.1 hr).1
      have hnot : ∀ e ∈ oj.after, Region.binds .any e = true → e.on ≠ i := by
        intro e he hb heq
        have h2 := hall e he hb
        rw [heq] at h2
        rcases Nat.lt_or_ge i l.size with h' | h'
        · simp [h'] at h0 h2; rw [h0] at h2; cases h2
        · simp [Array.getElem?_eq_none h'] at h2
      have h3 := wpOp_putIf hoj (hfree j oj hoj hne hun hnot) (fun cs b => Region.noSelect_spec hs i oi cs b hi) (fun cs b => Region.noSelect_spec hs j oj cs b hoj) hQ hy h1
      refine wpOp_mono (fun a' w' h4 => ⟨fun _ => h4.2.1 hjz, ih (l.setIfInBounds j true) a' w' ?_ (ready_mono hr (Ne.symm hne)) h4.1 (h4.2.1 hjz) ?_⟩) h3
      · intro x ox hx hxi hxu hxn
        refine hfree x ox hx hxi ?_ hxn
        rcases Decidable.em (j = x) with rfl | hjx
        · exact hun
        · rw [getD_set_ne true hjx] at hxu; exact hxu
      · rw [Array.setIfInBounds_comm _ _ hne]
        exact h4.2.2
end

section
variable {P : Program} {n : Nat} {ds : List Deferred} {ops : Array Oper} {S : World → Prop} {Q : Exit → Env → World → Prop} {e : Env} {w : World} {fuel : Nat} {listed : Array Bool} {o : Oper} {d : Nat} {v : Value} {j d' z : Nat} {b : Bool}

def WH (P : Program) (n : Nat) (ds : List Deferred) (ops : Array Oper) (S : World → Prop) (z : Nat) (Q : Exit → Env → World → Prop) (fuel : Nat) (listed : Array Bool) (e : Env) (w : World) : Prop :=
  ∀ a, Fr a n ds e → AnyE P ops (lift n ds Q) S z fuel listed a w
/-- Number i comes up. -/
def WHi (P : Program) (n : Nat) (ds : List Deferred) (ops : Array Oper) (S : World → Prop) (z : Nat) (Q : Exit → Env → World → Prop) (fuel : Nat) (listed : Array Bool) (i : Nat) (e : Env) (w : World) : Prop :=
  ∀ a, Fr a n ds e → wpOp P ops (lift n ds Q) i (fun a' w' => (i ≠ z → S w') ∧ AnyE P ops (lift n ds Q) S z fuel (listed.setIfInBounds i true) a' w') a w

theorem W_held {id : Nat} {l : List Oper} (N z : Nat) (S : World → Prop) (hm : P.follows .mixedOrders = true) (hN : l.toArray.size = N)
    (h : ∀ w1, Ext w w1 → w1.heap = w.heap → WH P n ds l.toArray S z Q N (Array.replicate N false) e w1) : W P n ds (.region id l.toArray true) Q e w := by
  unfold W
  unfold WH at h
  intro a ha
  subst hN
  exact wp_region_any hm (AnyE.any _ _ _ _ (h _ ((Ext.refl w).drew (w.drawn + 1)) rfl a ha))
theorem WH_take (i : Nat) (hi : ops[i]? = some o) (hg : o.guard = none) (hd : o.dst = some d) (hn : lt' d n = true)
    (hb : (Region.noSelect ops && Region.free .any ops listed i && (Region.ready .any ops listed).contains i && waits ops z i) = true) (hQ : ∀ c e w, ¬ Q (.panic c) e w)
    (hS : S w) (hy : ∀ w', S w' → St P o e w' v w') (k : WH P n ds ops S z Q fuel (listed.setIfInBounds i true) (upd e d v) w) : WH P n ds ops S z Q (fuel + 1) listed e w := by
  unfold WH at *
  intro a ha
  simp only [Bool.and_eq_true] at hb
  refine AnyE.take (v := v) hi hb.1.1.1 hb.2 (fun c a w ⟨e', h1, h2⟩ => absurd h2 (hQ c e' w)) fuel listed a w (Region.free_spec hi hb.1.1.2) (by simpa using hb.1.2) (.inl ⟨wanted_none hg, fun w' hw' => ?_⟩) hS (by rw [hd]; exact k _ (ha.put v hn))
  have := hy w' hw'
  unfold St at this
  rw [ha.eval, this]
theorem WH_done (hr : Region.ready .any ops listed = []) (h : Q .normal e w) : WH P n ds ops S z Q fuel listed e w := by
  unfold WH
  intro a ha
  cases fuel with
  | zero => exact ⟨hr, e, ha, h⟩
  | succ k => exact ⟨fun _ => ⟨e, ha, h⟩, by rw [hr]; simp⟩
theorem WH_one {i : Nat} (hr : Region.ready .any ops listed = [i]) (h : WHi P n ds ops S z Q fuel listed i e w) : WH P n ds ops S z Q (fuel + 1) listed e w := by
  unfold WH
  unfold WHi at h
  refine fun a ha => ⟨fun h0 => (by rw [hr] at h0; cases h0), fun k hk => ?_⟩
  rw [hr] at hk
  rw [List.mem_singleton] at hk
  subst hk
  exact h a ha
theorem WH_two {i j : Nat} (hr : Region.ready .any ops listed = [i, j]) (h : WHi P n ds ops S z Q fuel listed i e w) (h' : WHi P n ds ops S z Q fuel listed j e w) : WH P n ds ops S z Q (fuel + 1) listed e w := by
  unfold WH
  unfold WHi at h h'
  refine fun a ha => ⟨fun h0 => (by rw [hr] at h0; cases h0), fun k hk => ?_⟩
  rw [hr] at hk
  rcases List.mem_cons.1 hk with rfl | hk
  · exact h a ha
  · rw [List.mem_singleton] at hk
    subst hk
    exact h' a ha
theorem WHi_ef {i : Nat} {R : Value → World → Prop} (hr : ∃ v w', St P o e w v w' ∧ R v w') (hi : ops[i]? = some o) (hg : o.guard = none) (hd : o.dst = some d) (hn : lt' d n = true)
    (k : ∀ v w', R v w' → (i ≠ z → S w') ∧ WH P n ds ops S z Q fuel (listed.setIfInBounds i true) (upd e d v) w') : WHi P n ds ops S z Q fuel listed i e w := by
  obtain ⟨v, w', h1, h2⟩ := hr
  obtain ⟨h3, h4⟩ := k v w' h2
  unfold WH at h4
  unfold WHi
  intro a ha
  unfold wpOp
  rw [hi]
  dsimp only
  rw [if_pos (wanted_none hg)]
  refine .inl (wp_val ha h1 ?_)
  rw [hd]
  exact ⟨h3, h4 _ (ha.put v hn)⟩
theorem WHi_val {i : Nat} {w' : World} (hi : ops[i]? = some o) (hg : o.guard = none) (hd : o.dst = some d) (hn : lt' d n = true) (h1 : St P o e w v w') (hS : i ≠ z → S w')
    (k : WH P n ds ops S z Q fuel (listed.setIfInBounds i true) (upd e d v) w') : WHi P n ds ops S z Q fuel listed i e w :=
  WHi_ef (R := fun u x => u = v ∧ x = w') ⟨v, w', h1, rfl, rfl⟩ hi hg hd hn (by rintro _ _ ⟨rfl, rfl⟩; exact ⟨hS, k⟩)
theorem WHi_su {i : Nat} {R : World → Prop} (hr : ∃ w', Su P o e w w' ∧ R w') (hi : ops[i]? = some o) (hg : o.guard = none) (hd : o.dst = none)
    (k : ∀ w', R w' → (i ≠ z → S w') ∧ WH P n ds ops S z Q fuel (listed.setIfInBounds i true) e w') : WHi P n ds ops S z Q fuel listed i e w := by
  obtain ⟨w', h1, h2⟩ := hr
  obtain ⟨h3, h4⟩ := k w' h2
  unfold WH at h4
  unfold WHi
  intro a ha
  unfold wpOp
  rw [hi]
  dsimp only
  rw [if_pos (wanted_none hg)]
  refine .inl ?_
  unfold Oper.wp
  unfold Su at h1
  rw [ha.eval, h1, Oper.upon_skip, hd]
  exact ⟨h3, h4 _ ha⟩
theorem WHi_call {i : Nat} {f : FuncId} {as : List Value} {R : Value → World → Prop} (hi : ops[i]? = some o) (hg : o.guard = none) (hd : o.dst = some d) (hn : lt' d n = true)
    (hc : Fun P f as w R) (ho : IsGo P f → Ent P o e w f as) (k : ∀ v w', R v w' → (i ≠ z → S w') ∧ WH P n ds ops S z Q fuel (listed.setIfInBounds i true) (upd e d v) w') : WHi P n ds ops S z Q fuel listed i e w := by
  unfold WH at k
  unfold WHi
  unfold Fun at hc
  unfold Ent at ho
  intro a ha
  unfold wpOp
  rw [hi]
  dsimp only
  rw [if_pos (wanted_none hg)]
  refine .inl (wp_call ha (ho hc.1) (by unfold Fun; exact hc) fun v w' hR => ?_)
  rw [hd]
  exact ⟨(k v w' hR).1, (k v w' hR).2 _ (ha.put v hn)⟩
end
theorem np0 {R : Value → World → Prop} {c : List PanicEntry} {e : Env} {w : World} (h : QR0 R (.panic c) e w) : False := by unfold QR0 at h; exact h
theorem np1 {R : Value → World → Prop} {t : Nat} {c : List PanicEntry} {e : Env} {w : World} (h : QR1 t R (.panic c) e w) : False := by unfold QR1 at h; exact h
theorem np2 {R : Value → World → Prop} {t t' : Nat} {c : List PanicEntry} {e : Env} {w : World} (h : QR2 t t' R (.panic c) e w) : False := by unfold QR2 at h; exact h
attribute [irreducible] WH WHi
end Go.Proofs.YtndfhicdabdafaaDoor
