/- Maps that are sets: made, asked, added to, ranged over. -/
import Derived.Test.YtndfhicdabdafaaDoorKb
import Derived.Maps.RangeRun
import Derived.Laws.StructEq
import Derived.MapKept
namespace Go.Proofs.YtndfhicdabdafaaDoor
open Go Go.RowKit Go.MapKept
open Go.ChangeMaps (setBlock)

/-- Values of α are keys of type k, written by mk. -/
structure KeyOk {α : Type} (P : Program) (k : TypeId) (mk : α → Value) : Prop where
  inj : ∀ a b, mk a = mk b → a = b
  check : ∀ (em : Bool) (w : World) (a : α), (Instr.checkKey em 10000 k (mk a)).run P w = .ok () w
  find : ∀ (w : World) (a : α) (es : List MapEntry), (∀ e ∈ es, ∃ b, e.key = mk b) →
    ((Instr.findKey k (mk a) es).run P w = .ok none w ∧ ∀ e ∈ es, e.key ≠ mk a) ∨ ∃ (j : Nat) (e : MapEntry), (Instr.findKey k (mk a) es).run P w = .ok (some (j, e.val)) w ∧ es[j]? = some e ∧ e.key = mk a
  stays : ∀ (w : World) (a : α), (Instr.keyThatStays (mk a) (mk a)).run P w = .ok (mk a) w

section
variable {P : Program} {k : TypeId}
abbrev mkI (n : Nat) : Value := .int .i64 (n : Int)
abbrev mkP (p : Nat × Nat) : Value := .agg #[.int .i64 (p.1 : Int), .int .i64 (p.2 : Int)]
theorem mkI_inj (a b : Nat) (h : mkI a = mkI b) : a = b := by
  unfold mkI at h
  injection h with _ h
  omega
theorem mkP_inj (a b : Nat × Nat) (h : mkP a = mkP b) : a = b := by
  unfold mkP at h
  simp at h
  exact Prod.ext (by omega) (by omega)
theorem findNow_int (q : IntKind) (a : Nat) : ∀ (es : List MapEntry) (i : Nat), (∀ e ∈ es, ∃ b, e.key = mkI b) →
    (Instr.findNow (.int q) (mkI a) es i = some none ∧ ∀ e ∈ es, e.key ≠ mkI a) ∨ ∃ (j : Nat) (e : MapEntry), Instr.findNow (.int q) (mkI a) es i = some (some (i + j, e.val)) ∧ es[j]? = some e ∧ e.key = mkI a
  | [], i, _ => .inl ⟨rfl, fun e h => by cases h⟩
  | e :: es, i, hk => by
    obtain ⟨b, hb⟩ := hk e List.mem_cons_self
    have hs : Instr.sameNow (.int q) (mkI a) e.key = some ((a : Int) == (b : Int)) := by
      rw [hb]; simp only [mkI, Instr.sameNow, if_true]
    by_cases hab : a = b
    · subst hab
      refine .inr ⟨0, e, ?_, rfl, hb⟩
      unfold Instr.findNow
      rw [hs]
      simp
    · have hne : ((a : Int) == (b : Int)) = false := by rw [beq_eq_false_iff_ne]; omega
      rw [hne] at hs
      have hf : Instr.findNow (.int q) (mkI a) (e :: es) i = Instr.findNow (.int q) (mkI a) es (i + 1) := by
        conv => lhs; unfold Instr.findNow
        rw [hs]
      rw [hf]
      rcases findNow_int q a es (i + 1) (fun x hx => hk x (List.mem_cons_of_mem _ hx)) with ⟨h1, h2⟩ | ⟨j, x, h1, h2, h3⟩
      · refine .inl ⟨h1, fun x hx => ?_⟩
        rcases List.mem_cons.1 hx with rfl | hx
        · rw [hb]; exact fun h => hab (mkI_inj _ _ h).symm
        · exact h2 x hx
      · exact .inr ⟨j + 1, x, by rw [h1]; congr 3; omega, by simpa using h2, h3⟩
theorem keyI {q : IntKind} (hu : P.underlying k = some (.int q)) (hq : q = .i64) : KeyOk P k mkI where
  inj := mkI_inj
  check em w a := run_checkKey hu (by subst hq; rfl) em 9999
  find w a es h := by
    have e1 : ∀ r, Instr.findNow (.int q) (mkI a) es 0 = some r → (Instr.findKey k (mkI a) es).run P w = .ok r w := by
      intro r hr
      unfold Instr.findKey
      rw [Sem.run_bind, run_underlying' hu, Result.andThen_ok, hr]
      rfl
    rcases findNow_int q a es 0 h with ⟨h1, h2⟩ | ⟨j, x, h1, h2, h3⟩
    · exact .inl ⟨e1 _ h1, h2⟩
    · refine .inr ⟨j, x, ?_, h2, h3⟩
      have := e1 _ h1
      rwa [Nat.zero_add] at this
  stays w a := by
    unfold Instr.keyThatStays mkI
    have : Instr.sameBits 10000 (.int .i64 (a : Int)) (.int .i64 (a : Int)) = true := by simp [Instr.sameBits]
    rw [if_pos this]
    rfl

variable {f1 f2 : Field}
/-- A struct of two ints. -/
structure PairT (P : Program) (k : TypeId) (f1 f2 : Field) : Prop where
  hu : P.underlying k = some (.struct #[f1, f2])
  n1 : f1.name ≠ "_"
  n2 : f2.name ≠ "_"
  o1 : f1.offset = 0
  o2 : f2.offset = 1
  u1 : P.underlying f1.type = some (.int .i64)
  u2 : P.underlying f2.type = some (.int .i64)
  hs : P.stoodInHeld k = false
theorem run_part1 {t : TypeId} {w : World} {cs : Array Value} {o : Nat} {v : Value} (hu : P.underlying t = some (.int .i64)) (hv : cs[o]? = some v) : (part t cs o).run P w = .ok v w := by
  unfold part
  rw [Sem.run_bind, T1.isAgg ⟨_, hu, rfl⟩, Result.andThen_ok]
  simp only [Bool.false_eq_true, if_false, hv]
  rfl
theorem PairT.equal (h : PairT P k f1 f2) (w : World) (a b : Nat × Nat) : (Op.equal k (mkP a) (mkP b)).run P w = .ok (decide (a = b)) w := by
  have hf : P.fieldsOf k = #[f1, f2] := by unfold Program.fieldsOf; rw [h.hu]
  show (Op.equalIn (9999 + 1) k (mkP a) (mkP b)).run P w = _
  unfold mkP
  rw [run_equalIn_struct w 9999 k _ _ (by rw [hf]; exact h.hu) h.hs, hf]
  have q1 : ∀ x y : Nat × Nat, (part f1.type #[Value.int .i64 (x.1 : Int), .int .i64 (x.2 : Int)] f1.offset).run P w = .ok (.int .i64 (x.1 : Int)) w := fun x _ => run_part1 h.u1 (by rw [h.o1]; rfl)
  have q2 : ∀ x y : Nat × Nat, (part f2.type #[Value.int .i64 (x.1 : Int), .int .i64 (x.2 : Int)] f2.offset).run P w = .ok (.int .i64 (x.2 : Int)) w := fun x _ => run_part1 h.u2 (by rw [h.o2]; rfl)
  simp only [Op.eqFields, h.n1, h.n2, ne_eq, not_false_eq_true, if_true, Sem.run_bind, q1 a a, q1 b b, Result.andThen_ok, run_equalIn_int w 9998 _ _ _ _ _ h.u1]
  by_cases e1 : a.1 = b.1
  · have e1' : (((a.1 : Int)) == (b.1 : Int)) = true := by rw [beq_iff_eq]; omega
    simp only [e1', Bool.not_true, Bool.false_eq_true, if_false, Sem.run_bind, q2 a a, q2 b b, Result.andThen_ok, run_equalIn_int w 9998 _ _ _ _ _ h.u2]
    by_cases e2 : a.2 = b.2
    · have e2' : (((a.2 : Int)) == (b.2 : Int)) = true := by rw [beq_iff_eq]; omega
      rw [e2', decide_eq_true (Prod.ext e1 e2)]
      rfl
    · have e2' : (((a.2 : Int)) == (b.2 : Int)) = false := by rw [beq_eq_false_iff_ne]; omega
      rw [e2', decide_eq_false (fun h => e2 (by rw [h]))]
      rfl
  · have e1' : (((a.1 : Int)) == (b.1 : Int)) = false := by rw [beq_eq_false_iff_ne]; omega
    rw [e1', decide_eq_false (fun h => e1 (by rw [h]))]
    rfl
theorem PairT.asking (h : PairT P k f1 f2) (w : World) (a : Nat × Nat) : ∀ (es : List MapEntry) (i : Nat), (∀ e ∈ es, ∃ b, e.key = mkP b) →
    ((Instr.findAsking k (mkP a) es i).run P w = .ok none w ∧ ∀ e ∈ es, e.key ≠ mkP a) ∨ ∃ (j : Nat) (e : MapEntry), (Instr.findAsking k (mkP a) es i).run P w = .ok (some (i + j, e.val)) w ∧ es[j]? = some e ∧ e.key = mkP a
  | [], i, _ => .inl ⟨rfl, fun e h => by cases h⟩
  | e :: es, i, hk => by
    obtain ⟨b, hb⟩ := hk e List.mem_cons_self
    have hs := h.equal w a b
    by_cases hab : a = b
    · subst hab
      rw [decide_eq_true rfl] at hs
      refine .inr ⟨0, e, ?_, rfl, hb⟩
      unfold Instr.findAsking
      rw [Sem.run_bind, hb, hs, Result.andThen_ok]
      rfl
    · rw [decide_eq_false hab] at hs
      have hf : (Instr.findAsking k (mkP a) (e :: es) i).run P w = (Instr.findAsking k (mkP a) es (i + 1)).run P w := by
        conv => lhs; unfold Instr.findAsking
        rw [Sem.run_bind, hb, hs, Result.andThen_ok]
        rfl
      rw [hf]
      rcases h.asking w a es (i + 1) (fun x hx => hk x (List.mem_cons_of_mem _ hx)) with ⟨h1, h2⟩ | ⟨j, x, h1, h2, h3⟩
      · refine .inl ⟨h1, fun x hx => ?_⟩
        rcases List.mem_cons.1 hx with rfl | hx
        · rw [hb]; exact fun h => hab (mkP_inj _ _ h).symm
        · exact h2 x hx
      · exact .inr ⟨j + 1, x, by rw [h1]; congr 3; omega, by simpa using h2, h3⟩
theorem keyP (h : PairT P k f1 f2) : KeyOk P k mkP where
  inj := mkP_inj
  check em w a := by
    unfold mkP
    show (Instr.checkKey em (9998 + 1 + 1) k _).run P w = _
    unfold Instr.checkKey
    rw [Sem.run_bind, run_underlying' h.hu, Result.andThen_ok]
    dsimp only
    have q1 : (part f1.type #[Value.int .i64 (a.1 : Int), .int .i64 (a.2 : Int)] f1.offset).run P w = .ok (.int .i64 (a.1 : Int)) w := run_part1 h.u1 (by rw [h.o1]; rfl)
    have q2 : (part f2.type #[Value.int .i64 (a.1 : Int), .int .i64 (a.2 : Int)] f2.offset).run P w = .ok (.int .i64 (a.2 : Int)) w := run_part1 h.u2 (by rw [h.o2]; rfl)
    have c1 : (Instr.checkKey em 9999 f1.type (.int .i64 (a.1 : Int))).run P w = .ok () w := run_checkKey h.u1 (show IsKey (.int .i64) (.int .i64 _) from rfl) em 9998
    have c2 : (Instr.checkKey em 9999 f2.type (.int .i64 (a.2 : Int))).run P w = .ok () w := run_checkKey h.u2 (show IsKey (.int .i64) (.int .i64 _) from rfl) em 9998
    rw [← Array.forIn_toList]
    simp [List.forIn_cons, h.n1, h.n2, q1, q2, c1, c2]
  find w a es he := by
    cases es with
    | nil =>
      refine .inl ⟨?_, fun e h => by cases h⟩
      unfold Instr.findKey
      rw [Sem.run_bind, run_underlying' h.hu, Result.andThen_ok]
      rfl
    | cons e es =>
      have e1 : (Instr.findKey k (mkP a) (e :: es)).run P w = (Instr.findAsking k (mkP a) (e :: es) 0).run P w := by
        unfold Instr.findKey
        rw [Sem.run_bind, run_underlying' h.hu, Result.andThen_ok]
        obtain ⟨b, hb⟩ := he e List.mem_cons_self
        have : Instr.findNow (.struct #[f1, f2]) (mkP a) (e :: es) 0 = none := by
          unfold Instr.findNow
          rw [hb]
          rfl
        rw [this]
      rw [e1]
      have := h.asking w a (e :: es) 0 he
      simpa only [Nat.zero_add] using this
  stays w a := by
    unfold Instr.keyThatStays mkP
    have : Instr.sameBits 10000 (.agg #[.int .i64 (a.1 : Int), .int .i64 (a.2 : Int)]) (.agg #[.int .i64 (a.1 : Int), .int .i64 (a.2 : Int)]) = true := by simp [Instr.sameBits]
    rw [if_pos this]
    rfl
end

section
variable {α : Type} {mk : α → Value}
/-- At block m lies a map whose keys are these, all of them with true. -/
def SetAt (w : World) (m : Nat) (mk : α → Value) (ks : List α) : Prop :=
  ∃ es clock, w.heap[m]? = some (.map es clock) ∧ Stamped es clock ∧ es.toList.map (fun e => (e.key, e.val)) = ks.map (fun a => (mk a, Value.bool true))
theorem SetAt.lt {w : World} {m : Nat} {ks : List α} (h : SetAt w m mk ks) : m < w.heap.size := by
  obtain ⟨es, clock, h, _⟩ := h
  exact (Array.getElem?_eq_some_iff.1 h).1
theorem SetAt.fro {S : Nat → Prop} {w w' : World} {m : Nat} {ks : List α} (h : SetAt w m mk ks) (hx : Fro S w w') (hs : ¬ S m) : SetAt w' m mk ks := by
  have hl := h.lt
  obtain ⟨es, clock, h, hr⟩ := h
  exact ⟨es, clock, by rw [hx.block m hl hs, h], hr⟩
theorem SetAt.ext {w w' : World} {m : Nat} {ks : List α} (h : SetAt w m mk ks) (hx : Ext w w') : SetAt w' m mk ks := h.fro hx id
theorem ents {es : Array MapEntry} {ks : List α} (h : es.toList.map (fun e => (e.key, e.val)) = ks.map (fun a => (mk a, Value.bool true))) :
    (∀ e ∈ es.toList, ∃ a ∈ ks, e.key = mk a ∧ e.val = .bool true) ∧ (∀ a ∈ ks, ∃ e ∈ es.toList, e.key = mk a) := by
  refine ⟨fun e he => ?_, fun a ha => ?_⟩
  · have h1 : (e.key, e.val) ∈ ks.map (fun a => (mk a, Value.bool true)) := by rw [← h]; exact List.mem_map.2 ⟨e, he, rfl⟩
    obtain ⟨a, ha, e1⟩ := List.mem_map.1 h1
    injection e1 with e1 e2
    exact ⟨a, ha, e1.symm, e2.symm⟩
  · have h1 : (mk a, Value.bool true) ∈ es.toList.map (fun e => (e.key, e.val)) := by rw [h]; exact List.mem_map.2 ⟨a, ha, rfl⟩
    obtain ⟨e, he, e1⟩ := List.mem_map.1 h1
    injection e1 with e1 e2
    exact ⟨e, he, e1⟩

variable {P : Program} {k : TypeId} {e : Env} {w w' : World} {dst : Option Tmp} {ty t t' : TypeId} {pos : String} {aft : Array Edge} {g : Option (Nat × Bool)} {x y z : Operand}
theorem ef_makeMap (mk : α → Value) : ∃ v w', St P ⟨dst, .makeMap t none, ty, pos, aft, g⟩ e w v w' ∧ ∃ m, v = .map (some m) ∧ w.heap.size ≤ m ∧ SetAt w' m mk [] ∧ Ext w w' := by
  refine ⟨.map (some w.heap.size), { w with heap := w.heap.push (.map #[] 0) }, ?_, w.heap.size, rfl, Nat.le_refl _, ?_, ext_push _ _⟩
  · unfold St
    rfl
  · refine ⟨#[], 0, ?_, stamped_empty 0, rfl⟩
    show (w.heap.push _)[w.heap.size]? = _
    rw [Array.getElem?_push, if_pos rfl]
theorem st_lookup [DecidableEq α] {el : TypeId} {sz by' m : Nat} {ks : List α} {a : α} (K : KeyOk P k mk) (hu : P.underlying t = some (.map k el)) (hz : TI P el (.bool false) sz by') (hs : SetAt w m mk ks) (hx : ev e x = .map (some m)) (hy : ev e y = mk a) :
    St P ⟨dst, .lookup t x y false, ty, pos, aft, g⟩ e w (.bool (decide (a ∈ ks))) w := by
  obtain ⟨es, clock, hb, hst, hks⟩ := hs
  obtain ⟨h1, h2⟩ := ents hks
  unfold St
  refine run_v (s := Instr.lookup t (ev e x) (ev e y) false) ?_
  rw [hx, hy]
  unfold Instr.lookup
  rw [Sem.run_bind, run_underlying' hu, Result.andThen_ok]
  dsimp only
  rw [Sem.run_bind, Go.MapKept.run_getObj_map hb, Result.andThen_ok]
  dsimp only
  rw [Sem.run_bind]
  have hpure : (Sem.run P (pure es : Sem (Array MapEntry)) w) = .ok es w := rfl
  rw [hpure, Result.andThen_ok, Sem.run_bind, K.check, Result.andThen_ok, Sem.run_bind]
  rcases K.find w a es.toList (fun e he => let ⟨b, _, hb, _⟩ := h1 e he; ⟨b, hb⟩) with ⟨h3, h4⟩ | ⟨j, e0, h3, h4, h5⟩
  · rw [h3, Result.andThen_ok]
    dsimp only
    rw [Sem.run_bind, hz.zero, Result.andThen_ok]
    have : a ∉ ks := fun h => let ⟨e, he, h6⟩ := h2 a h; h4 e he h6
    rw [decide_eq_false this]
    rfl
  · rw [h3, Result.andThen_ok]
    obtain ⟨b, hb1, hb2, hb3⟩ := h1 e0 (List.mem_of_getElem? h4)
    have : a ∈ ks := by rw [K.inj a b (h5.symm.trans hb2)]; exact hb1
    rw [decide_eq_true this, ← hb3]
    rfl
theorem fro_setBlock {m : Nat} {o : Obj} (w : World) : Fro (· = m) w (setBlock w m o) :=
  ⟨rfl, rfl, rfl, by simp [setBlock], fun k hk hs => by
    have : ¬ m = k := fun e => hs e.symm
    simp [setBlock, Array.getElem?_setIfInBounds, this]⟩
theorem run_addKey [DecidableEq α] {m : Nat} {ks : List α} {a : α} {el : TypeId} (K : KeyOk P k mk) (hu : P.underlying t = some (.map k el)) (hs : SetAt w m mk ks) :
    ∃ w', (Instr.mapUpdate t (.map (some m)) (mk a) (.bool true)).run P w = .ok () w' ∧ SetAt w' m mk (if a ∈ ks then ks else ks ++ [a]) ∧ Fro (· = m) w w' := by
  have hlt := hs.lt
  obtain ⟨es, clock, hb, hst, hks⟩ := hs
  obtain ⟨h1, h2⟩ := ents hks
  have hset : ∀ o, (setBlock w m o).heap[m]? = some o := fun o => by simp [setBlock, hlt]
  have hrun : ∀ o, (setObj m o).run P w = .ok () (setBlock w m o) := fun o => by rw [Go.MapKept.run_setObj_map o hb]; rfl
  have hstart : (Instr.mapUpdate t (.map (some m)) (mk a) (.bool true)).run P w = (Sem.run P (do
      match ← Instr.findKey k (mk a) es.toList with
      | some (i, _) => do
        let key ← Instr.keyThatStays (((es[i]?).map (·.key)).getD (mk a)) (mk a)
        setObj m (.map (es.modify i fun e => { e with key, val := .bool true }) clock)
      | none => setObj m (.map (es.push { key := mk a, val := .bool true, born := clock }) (clock + 1))) w) := by
    unfold Instr.mapUpdate
    rw [Sem.run_bind, run_underlying' hu, Result.andThen_ok]
    dsimp only
    rw [Sem.run_bind, Go.MapKept.run_getObj_map hb, Result.andThen_ok]
    dsimp only
    rw [Sem.run_bind, K.check, Result.andThen_ok]
    rfl
  rw [hstart, Sem.run_bind]
  rcases K.find w a es.toList (fun e he => let ⟨b, _, hb, _⟩ := h1 e he; ⟨b, hb⟩) with ⟨h3, h4⟩ | ⟨j, e0, h3, h4, h5⟩
  · rw [h3, Result.andThen_ok]
    refine ⟨_, hrun _, ⟨_, _, hset _, stamped_push hst h4, ?_⟩, fro_setBlock w⟩
    have : a ∉ ks := fun h => let ⟨e, he, h6⟩ := h2 a h; h4 e he h6
    rw [if_neg this, Array.toList_push, List.map_append, List.map_append, hks]
    rfl
  · rw [h3, Result.andThen_ok]
    obtain ⟨b, hb1, hb2, hb3⟩ := h1 e0 (List.mem_of_getElem? h4)
    have hin : a ∈ ks := by rw [K.inj a b (h5.symm.trans hb2)]; exact hb1
    have hj : es[j]? = some e0 := by rw [← Array.getElem?_toList]; exact h4
    dsimp only
    rw [hj]
    show ∃ w', (Sem.run P (do
        let key ← Instr.keyThatStays e0.key (mk a)
        setObj m (.map (es.modify j fun e => { e with key, val := .bool true }) clock)) w) = _ ∧ _
    rw [h5, Sem.run_bind, K.stays, Result.andThen_ok]
    have hsame : (es.modify j fun e => { e with key := mk a, val := .bool true }) = es := by
      apply Array.ext_getElem?
      intro i
      rw [Array.getElem?_modify]
      by_cases hij : j = i
      · subst hij
        rw [if_pos rfl, hj, Option.map_some]
        congr 1
        cases e0
        simp only at h5 hb3
        rw [← h5, ← hb3]
      · rw [if_neg hij]
    rw [hsame]
    refine ⟨_, hrun _, ⟨_, _, hset _, hst, ?_⟩, fro_setBlock w⟩
    rw [if_pos hin]
    exact hks
theorem su_mapUpdate [DecidableEq α] {m : Nat} {ks : List α} {a : α} {el : TypeId} (K : KeyOk P k mk) (hu : P.underlying t = some (.map k el)) (hs : SetAt w m mk ks) (hx : ev e x = .map (some m)) (hy : ev e y = mk a) (hz : ev e z = .bool true) :
    ∃ w', Su P ⟨none, .mapUpdate t x y z, ty, pos, aft, g⟩ e w w' ∧ SetAt w' m mk (if a ∈ ks then ks else ks ++ [a]) ∧ Fro (· = m) w w' := by
  obtain ⟨w', h1, h2⟩ := run_addKey (a := a) K hu hs
  refine ⟨w', ?_, h2⟩
  unfold Su
  refine run_u (s := Instr.mapUpdate t (ev e x) (ev e y) (ev e z)) ?_
  rw [hx, hy, hz]
  exact h1
theorem su_insert [DecidableEq α] {m : Nat} {ks : List α} {a : α} {el : TypeId} (K : KeyOk P k mk) (hu : P.underlying t = some (.map k el)) (hs : SetAt w m mk ks) (hx : ev e x = .map (some m)) (hy : ev e y = mk a) (hz : ev e z = .bool true) :
    ∃ w', Su P ⟨none, .insert t x y z, ty, pos, aft, g⟩ e w w' ∧ SetAt w' m mk (if a ∈ ks then ks else ks ++ [a]) ∧ Fro (· = m) w w' := by
  obtain ⟨w', h1, h2⟩ := run_addKey (a := a) K hu hs
  refine ⟨w', ?_, h2⟩
  unfold Su
  refine run_u (s := Instr.mapUpdate t (ev e x) (ev e y) (ev e z)) ?_
  rw [hx, hy, hz]
  exact h1

/-- At block r an iterator over the set at block m: `done` came out already, c are still to come. -/
def RngAt (w : World) (r m : Nat) (mk : α → Value) (ks done : List α) (c : Nat) : Prop :=
  ∃ es clock since seen c0, w.heap[m]? = some (.map es clock) ∧ Stamped es clock ∧ es.toList.map (fun e => (e.key, e.val)) = ks.map (fun a => (mk a, Value.bool true)) ∧
    w.heap[r]? = some (.mapIter (some m) since seen c0) ∧ (∀ x ∈ es.toList, x.born < since) ∧ since ≤ c0 ∧ since ≤ clock ∧ (leftOf es seen).size = c ∧
    (∀ x ∈ es.toList, ∀ a, x.key = mk a → (seen.contains x.born = true ↔ a ∈ done)) ∧ ∀ a ∈ done, a ∈ ks
theorem RngAt.lt {r m c : Nat} {ks done : List α} (h : RngAt w r m mk ks done c) : r < w.heap.size ∧ m < w.heap.size ∧ r ≠ m := by
  obtain ⟨es, clock, since, seen, c0, h1, _, _, h2, _⟩ := h
  refine ⟨(Array.getElem?_eq_some_iff.1 h2).1, (Array.getElem?_eq_some_iff.1 h1).1, fun e => ?_⟩
  subst e
  rw [h1] at h2
  cases h2
theorem RngAt.fro {S : Nat → Prop} {r m c : Nat} {ks done : List α} (h : RngAt w r m mk ks done c) (hx : Fro S w w') (hr : ¬ S r) (hm : ¬ S m) : RngAt w' r m mk ks done c := by
  obtain ⟨l1, l2, _⟩ := h.lt
  obtain ⟨es, clock, since, seen, c0, h1, h3, h4, h2, h5⟩ := h
  exact ⟨es, clock, since, seen, c0, by rw [hx.block m l2 hm, h1], h3, h4, by rw [hx.block r l1 hr, h2], h5⟩
theorem RngAt.ext {r m c : Nat} {ks done : List α} (h : RngAt w r m mk ks done c) (hx : Ext w w') : RngAt w' r m mk ks done c := h.fro hx id id
theorem RngAt.set {r m c : Nat} {ks done : List α} (h : RngAt w r m mk ks done c) : SetAt w m mk ks := by
  obtain ⟨es, clock, since, seen, c0, h1, h3, h4, _⟩ := h
  exact ⟨es, clock, h1, h3, h4⟩
theorem ef_rangeM {m : Nat} {ks : List α} {el : TypeId} (hu : P.underlying t = some (.map k el)) (hx : ev e x = .map (some m)) (hs : SetAt w m mk ks) :
    ∃ v w', St P ⟨dst, .range t x, ty, pos, aft, g⟩ e w v w' ∧ ∃ r, v = .pointer (some ⟨r, 0, none⟩) ∧ w.heap.size ≤ r ∧ RngAt w' r m mk ks [] ks.length ∧ Ext w w' := by
  have hlt := hs.lt
  obtain ⟨es, clock, hb, hst, hks⟩ := hs
  refine ⟨.pointer (some ⟨w.heap.size, 0, none⟩), w.alloc (.mapIter (some m) clock #[] clock), ?_, w.heap.size, rfl, Nat.le_refl _, ?_, ext_push _ _⟩
  · unfold St
    refine run_v (s := Instr.range t (ev e x)) ?_
    rw [hx]
    exact run_range_map w t k el m es clock hu hb
  · refine ⟨es, clock, clock, #[], clock, ?_, hst, hks, ?_, hst.1, Nat.le_refl _, Nat.le_refl _, ?_, fun x _ a _ => by simp, fun a ha => by cases ha⟩
    · rw [heap_alloc_old w _ hlt, hb]
    · exact heap_alloc_new w _
    · have h9 := congrArg List.length hks
      rw [List.length_map, List.length_map] at h9
      unfold leftOf
      rw [Array.filter_eq_self.2 (fun x _ => by simp)]
      simpa using h9
/-- A step of the range. -/
theorem RngAt.next {r m c : Nat} {ks done : List α} (K : KeyOk P k mk) (h : RngAt w r m mk ks done c) :
    ((∀ a ∈ ks, a ∈ done) ∧ (Instr.next (.pointer (some ⟨r, 0, none⟩)) false 0).run P w = .ok (.tuple #[.bool false]) w) ∨
    ∃ a c' w', a ∈ ks ∧ a ∉ done ∧ c' < c ∧ (Instr.next (.pointer (some ⟨r, 0, none⟩)) false 0).run P w = .ok (.tuple #[.bool true, mk a, .bool true]) w' ∧ RngAt w' r m mk ks (a :: done) c' ∧ Fro (· = r) w w' ∧ w'.heap.size = w.heap.size ∧
      (Instr.entry (.pointer (some ⟨r, 0, none⟩))).run P w' = .ok (.tuple #[mk a, .bool true]) w' := by
  have hne := h.lt.2.2
  have hrl := h.lt.1
  obtain ⟨es, clock, since, seen, c0, hb, hst, hks, hr, hold, hsc, hsk, hc, hd, hdk⟩ := h
  obtain ⟨h1, h2⟩ := ents hks
  rcases run_next_at (P := P) w 0 r m since c0 seen es clock hr hb hold hsc with ⟨h0, hrun⟩ | ⟨e, he, w1, hal, hrun⟩
  · refine .inl ⟨fun a ha => ?_, hrun⟩
    obtain ⟨x, hx, hxa⟩ := h2 a ha
    exact (hd x hx a hxa).1 (all_seen es seen h0 x hx)
  · obtain ⟨hem, hes⟩ := mem_left he
    obtain ⟨a, ha, hka, hva⟩ := h1 e hem
    have hf1 : Ext w w1 := by rcases hal with rfl | rfl; exact Ext.refl _; exact ⟨rfl, rfl, rfl, Nat.le_refl _, fun _ _ _ => rfl⟩
    have hsz : w1.heap.size = w.heap.size := by rcases hal with rfl | rfl <;> rfl
    have hb1 : w1.heap[m]? = some (.map es clock) := by rcases hal with rfl | rfl <;> exact hb
    have hb' : (setBlock w1 r (.mapIter (some m) since (seen.push e.born) clock)).heap[m]? = some (.map es clock) := by
      rw [← hb1]
      have : ¬ r = m := hne
      simp [setBlock, Array.getElem?_setIfInBounds, this]
    have hr' : (setBlock w1 r (.mapIter (some m) since (seen.push e.born) clock)).heap[r]? = some (.mapIter (some m) since (seen.push e.born) clock) := by
      simp [setBlock, hsz, hrl]
    refine .inr ⟨a, (leftOf es (seen.push e.born)).size, _, ha, fun hin => ?_, ?_, ?_, ⟨es, clock, since, seen.push e.born, clock, hb', hst, hks, hr', hold, hsk, hsk, rfl, fun x hx b hb2 => ?_, fun b hb2 => ?_⟩, ?_, ?_, ?_⟩
    · have := (hd e hem a hka).2 hin
      rw [hes] at this
      cases this
    · rw [← hc]; exact left_shrinks es seen e he
    · rw [hrun, hka, hva]
    · rw [contains_push, Bool.or_eq_true, hd x hx b hb2, List.mem_cons, beq_iff_eq]
      constructor
      · rintro (h | h)
        · exact .inr h
        · have hinj : ∀ {l : List MapEntry}, (l.map (·.born)).Nodup → ∀ {x y : MapEntry}, x ∈ l → y ∈ l → x.born = y.born → x = y := by
            intro l
            induction l with
            | nil => intro _ x y hx; cases hx
            | cons z l ih =>
              intro hn x y hx hy hxy
              have hn' : z.born ∉ l.map (·.born) ∧ (l.map (·.born)).Nodup := List.nodup_cons.1 hn
              rcases List.mem_cons.1 hx with e1 | hx1
              · rcases List.mem_cons.1 hy with e2 | hy1
                · rw [e1, e2]
                · exact absurd (List.mem_map.2 ⟨y, hy1, by rw [← hxy, e1]⟩) hn'.1
              · rcases List.mem_cons.1 hy with e2 | hy1
                · exact absurd (List.mem_map.2 ⟨x, hx1, by rw [hxy, e2]⟩) hn'.1
                · exact ih hn'.2 hx1 hy1 hxy
          have := hinj hst.2.1 hx hem h
          subst this
          exact .inl (K.inj _ _ (hb2.symm.trans hka))
      · rintro (h | h)
        · right
          subst h
          have hinj : ∀ {l : List MapEntry}, (l.map (·.key)).Nodup → ∀ {x y : MapEntry}, x ∈ l → y ∈ l → x.key = y.key → x = y := by
            intro l
            induction l with
            | nil => intro _ x y hx; cases hx
            | cons z l ih =>
              intro hn x y hx hy hxy
              have hn' : z.key ∉ l.map (·.key) ∧ (l.map (·.key)).Nodup := List.nodup_cons.1 hn
              rcases List.mem_cons.1 hx with e1 | hx1
              · rcases List.mem_cons.1 hy with e2 | hy1
                · rw [e1, e2]
                · exact absurd (List.mem_map.2 ⟨y, hy1, by rw [← hxy, e1]⟩) hn'.1
              · rcases List.mem_cons.1 hy with e2 | hy1
                · exact absurd (List.mem_map.2 ⟨x, hx1, by rw [hxy, e2]⟩) hn'.1
                · exact ih hn'.2 hx1 hy1 hxy
          rw [hinj hst.2.2 hx hem (hb2.trans hka.symm)]
        · exact .inl h
    · rcases List.mem_cons.1 hb2 with rfl | hb2
      · exact ha
      · exact hdk b hb2
    · exact hf1.trans' (fro_setBlock w1) (fun _ _ f => f.elim) (fun _ _ s => s)
    · simp [setBlock, hsz]
    · rw [run_entry_at _ r m since seen es clock e hr' hb' hem hst.2.1, hka, hva]
theorem st_nextM {r : Nat} {v : Value} (hx : ev e x = .pointer (some ⟨r, 0, none⟩)) (h : (Instr.next (.pointer (some ⟨r, 0, none⟩)) false 0).run P w = .ok v w') : St P ⟨dst, .next x false, ty, pos, aft, g⟩ e w v w' := by
  unfold St
  refine run_v (s := Instr.next (ev e x) false ty) ?_
  rw [hx]
  exact h
theorem st_entryM {r : Nat} {v : Value} (hx : ev e x = .pointer (some ⟨r, 0, none⟩)) (h : (Instr.entry (.pointer (some ⟨r, 0, none⟩))).run P w = .ok v w') : St P ⟨dst, .entry x, ty, pos, aft, g⟩ e w v w' := by
  unfold St
  refine run_v (s := Instr.entry (ev e x)) ?_
  rw [hx]
  exact h
theorem SetAt.nodup {m : Nat} {ks : List α} (h : SetAt w m mk ks) : ks.Nodup := by
  obtain ⟨es, clock, _, hst, hks⟩ := h
  have h1 : es.toList.map (·.key) = ks.map mk := by
    have := congrArg (List.map Prod.fst) hks
    simpa [List.map_map, Function.comp_def] using this
  have h2 := hst.2.2
  rw [h1] at h2
  exact (List.pairwise_map.1 h2).imp (fun h e => h (by rw [e]))
theorem Blk.ne_set {m b : Nat} {T : TypeId} {cs : List Value} {ks : List α} (h : Blk w b T cs) (hs : SetAt w m mk ks) : b ≠ m := by
  rintro rfl
  obtain ⟨es, clock, h1, _⟩ := hs
  unfold Blk at h
  rw [h] at h1
  cases h1
theorem cell_ne_set {m : Nat} {a : Addr} {v : Value} {ks : List α} (h : w.cell? a = some v) (hs : SetAt w m mk ks) : a.block ≠ m := by
  intro e
  obtain ⟨es, clock, h1, _⟩ := hs
  unfold World.cell? at h
  rw [e, h1] at h
  cases h
theorem cell_map {m : Nat} {a : Addr} {v : Value} {ks : List α} (hs : SetAt w m mk ks) (hx : Fro (· = m) w w') (h : w.cell? a = some v) : w'.cell? a = some v := hx.cell h (cell_ne_set h hs)
theorem Cells.map {m b o : Nat} {cs : List Value} {ks : List α} (h : Cells w b o cs) (hs : SetAt w m mk ks) (hx : Fro (· = m) w w') : Cells w' b o cs := fun i v hv => cell_map hs hx (h i v hv)
end
end Go.Proofs.YtndfhicdabdafaaDoor
