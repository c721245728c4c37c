/- What each operation yields: one lemma for each kind of operation that the walks meet. -/
import Derived.Test.YtndfhicdabdafaaDoorKa
namespace Go.Proofs.YtndfhicdabdafaaDoor
open Go Go.RowKit

/-! ### the world -/

/-- Blocks outside S are as they were; the streams and the tape too. -/
structure Fro (S : Nat → Prop) (w w' : World) : Prop where
  os : w'.os = w.os
  tape : w'.tape = w.tape
  output : w'.output = w.output
  size : w.heap.size ≤ w'.heap.size
  block : ∀ k, k < w.heap.size → ¬ S k → w'.heap[k]? = w.heap[k]?

/-- Nothing that was there has changed. -/
abbrev Ext (w w' : World) : Prop := Fro (fun _ => False) w w'

theorem Fro.refl (S : Nat → Prop) (w : World) : Fro S w w := ⟨rfl, rfl, rfl, Nat.le_refl _, fun _ _ _ => rfl⟩
theorem Ext.refl (w : World) : Ext w w := Fro.refl _ w
theorem Fro.mono {S T : Nat → Prop} {w w' : World} (h : Fro S w w') (hs : ∀ k, k < w.heap.size → S k → T k) : Fro T w w' :=
  ⟨h.os, h.tape, h.output, h.size, fun k hk ht => h.block k hk fun s => ht (hs k hk s)⟩
theorem Fro.trans' {S T U : Nat → Prop} {a b c : World} (h : Fro S a b) (h' : Fro T b c) (hs : ∀ k, k < a.heap.size → S k → U k) (ht : ∀ k, k < a.heap.size → T k → U k) : Fro U a c :=
  ⟨h'.os.trans h.os, h'.tape.trans h.tape, h'.output.trans h.output, Nat.le_trans h.size h'.size,
    fun k hk hu => (h'.block k (Nat.lt_of_lt_of_le hk h.size) fun t => hu (ht k hk t)).trans (h.block k hk fun s => hu (hs k hk s))⟩
theorem Fro.trans {S : Nat → Prop} {a b c : World} (h : Fro S a b) (h' : Fro S b c) : Fro S a c := h.trans' h' (fun _ _ s => s) fun _ _ s => s
theorem Ext.trans {a b c : World} (h : Ext a b) (h' : Ext b c) : Ext a c := Fro.trans h h'
/-- What is changed behind is new. -/
theorem Fro.trans_new {S T : Nat → Prop} {a b c : World} (h : Fro S a b) (h' : Fro T b c) (hn : ∀ k, T k → a.heap.size ≤ k) : Fro S a c :=
  h.trans' h' (fun _ _ s => s) fun k hk t => absurd (hn k t) (by omega)
theorem Fro.below {w w' : World} (h : Ext w w') : Below w.heap.size w w' := ⟨h.os, h.tape, h.output, h.size, fun k hk => h.block k hk id⟩
theorem Ext.of_below {w w' : World} (h : Below w.heap.size w w') : Ext w w' := ⟨h.os, h.tape, h.output, h.size, fun k hk _ => h.block k hk⟩
theorem Ext.drew {w w' : World} (h : Ext w w') (n : Nat) : Ext w { w' with drawn := n } := ⟨h.os, h.tape, h.output, h.size, h.block⟩
theorem Ext.fro {S : Nat → Prop} {w w' : World} (h : Ext w w') : Fro S w w' := h.mono fun _ _ f => f.elim

theorem Fro.cell {S : Nat → Prop} {w w' : World} (h : Fro S w w') {a : Addr} {v : Value} (hc : w.cell? a = some v) (hs : ¬ S a.block) : w'.cell? a = some v := by
  have hlt : a.block < w.heap.size := by
    rcases Nat.lt_or_ge a.block w.heap.size with h1 | h1
    · exact h1
    · exfalso; unfold World.cell? at hc; rw [Array.getElem?_eq_none h1] at hc; cases hc
  rw [← hc]
  exact World.cell?_of_block (w := w) (h.block _ hlt hs)
theorem Ext.cell {w w' : World} (h : Ext w w') {a : Addr} {v : Value} (hc : w.cell? a = some v) : w'.cell? a = some v := Fro.cell h hc id

theorem lt_of_cell {w : World} {a : Addr} {v : Value} (hc : w.cell? a = some v) : a.block < w.heap.size := by
  rcases Nat.lt_or_ge a.block w.heap.size with h1 | h1
  · exact h1
  · exfalso; unfold World.cell? at hc; rw [Array.getElem?_eq_none h1] at hc; cases hc

/-- Block b is a row of these cells, none of them frozen. -/
def Blk (w : World) (b : Nat) (T : TypeId) (cs : List Value) : Prop := w.heap[b]? = some (.cells cs.toArray T (0, 0))

theorem Blk.lt {w : World} {b : Nat} {T : TypeId} {cs : List Value} (h : Blk w b T cs) : b < w.heap.size := by
  rcases Nat.lt_or_ge b w.heap.size with h1 | h1
  · exact h1
  · exfalso; unfold Blk at h; rw [Array.getElem?_eq_none h1] at h; cases h
theorem Blk.fro {S : Nat → Prop} {w w' : World} {b : Nat} {T : TypeId} {cs : List Value} (h : Blk w b T cs) (hx : Fro S w w') (hs : ¬ S b) : Blk w' b T cs := by
  have := h.lt
  unfold Blk at *
  rw [hx.block b this hs, h]
theorem Blk.ext {w w' : World} {b : Nat} {T : TypeId} {cs : List Value} (h : Blk w b T cs) (hx : Ext w w') : Blk w' b T cs := h.fro hx id
theorem Blk.cell {w : World} {b : Nat} {T : TypeId} {cs : List Value} (h : Blk w b T cs) (i : Nat) {v : Value} (hv : cs[i]? = some v) : w.cell? ⟨b, i, none⟩ = some v := by
  unfold Blk at h
  simp [World.cell?, h, hv]
theorem Blk.thaw {w : World} {b : Nat} {T : TypeId} {cs : List Value} (h : Blk w b T cs) (i : Nat) : w.frozen? ⟨b, i, none⟩ = false := by
  unfold Blk at h
  simp [World.frozen?, h]

/-- From place o on in block b lie these cells. -/
def Cells (w : World) (b o : Nat) (cs : List Value) : Prop := ∀ i v, cs[i]? = some v → w.cell? ⟨b, o + i, none⟩ = some v

theorem Cells.fro {S : Nat → Prop} {w w' : World} {b o : Nat} {cs : List Value} (h : Cells w b o cs) (hx : Fro S w w') (hs : ¬ S b) : Cells w' b o cs :=
  fun i v hv => hx.cell (h i v hv) hs
theorem Cells.ext {w w' : World} {b o : Nat} {cs : List Value} (h : Cells w b o cs) (hx : Ext w w') : Cells w' b o cs := h.fro hx id
theorem Blk.cells {w : World} {b : Nat} {T : TypeId} {cs : List Value} (h : Blk w b T cs) : Cells w b 0 cs := fun i v hv => by rw [Nat.zero_add]; exact h.cell i hv
/-- A part of a block. -/
theorem Cells.part {w : World} {b o : Nat} {cs : List Value} (h : Cells w b o cs) (i : Nat) {ds : List Value} (hd : ∀ j v, ds[j]? = some v → cs[i + j]? = some v) : Cells w b (o + i) ds :=
  fun j v hv => by rw [Nat.add_assoc]; exact h _ _ (hd j v hv)

theorem add_at (b o i : Nat) : Addr.add ⟨b, o, none⟩ i = ⟨b, o + i, none⟩ := by
  unfold Addr.add
  split
  · rename_i h; subst h; rfl
  · rfl

/-! ### types -/

def aggD : TypeDesc → Bool
  | .struct _ | .array _ _ => true
  | _ => false
/-- A type of one cell. -/
def T1 (P : Program) (t : TypeId) : Prop := ∃ d, P.underlying t = some d ∧ aggD d = false
/-- A struct or an array. -/
def TA (P : Program) (t : TypeId) : Prop := ∃ d, P.underlying t = some d ∧ aggD d = true
/-- A type's row: its zero value, how many cells, how many bytes. -/
def TI (P : Program) (t : TypeId) (z : Value) (size bytes : Nat) : Prop := ∃ i, P.info? t = some i ∧ i.zero = some z ∧ i.size = size ∧ i.bytes = bytes
theorem TI.mk {P : Program} {t : TypeId} {z : Value} {size bytes : Nat} (h : (P.info? t).map (fun i => (i.zero, i.size, i.bytes)) = some (some z, size, bytes)) : TI P t z size bytes := info_parts h

section
variable {P : Program} {w : World} {t : TypeId} {z : Value} {k by' : Nat}
theorem run_underlying' {d : TypeDesc} (h : P.underlying t = some d) : (underlying t).run P w = .ok d w := by
  show Sem.run P (match P.underlying t with | some d => pure d | none => stuck "no such type") w = _
  rw [h]; rfl
theorem TI.run (h : TI P t z k by') : ∃ i, (typeInfo t).run P w = .ok i w ∧ i.zero = some z ∧ i.size = k ∧ i.bytes = by' := by
  obtain ⟨i, h1, h2, h3, h4⟩ := h
  refine ⟨i, ?_, h2, h3, h4⟩
  show Sem.run P (match P.info? t with | some i => pure i | none => stuck "no such type") w = _
  rw [h1]; rfl
theorem TI.sizeOf (h : TI P t z k by') : (sizeOf t).run P w = .ok k w := by
  obtain ⟨i, h1, _, h3, _⟩ := h.run (w := w)
  simp [Go.sizeOf, h1, h3]
theorem TI.zero (h : TI P t z k by') : (zeroValue t).run P w = .ok z w := by
  obtain ⟨i, h1, h2, _⟩ := h.run (w := w)
  simp [zeroValue, h1, h2]
theorem T1.isAgg (h : T1 P t) : (isAgg t).run P w = .ok false w := by
  obtain ⟨d, h1, h2⟩ := h
  unfold Go.isAgg
  rw [Sem.run_bind, run_underlying' h1]
  cases d <;> simp_all [aggD]
theorem TA.isAgg (h : TA P t) : (isAgg t).run P w = .ok true w := by
  obtain ⟨d, h1, h2⟩ := h
  unfold Go.isAgg
  rw [Sem.run_bind, run_underlying' h1]
  cases d <;> simp_all [aggD]
end

section
variable {P : Program} {e : Env} {w w' : World} {dst : Option Tmp} {ty : TypeId} {pos : String} {aft : Array Edge} {g : Option (Nat × Bool)}
  {x y c : Operand} {t t' : TypeId} {m n : Int} {b : Bool} {v u : Value}

theorem run_v {s : Sem Value} (h : s.run P w = .ok v w') : Sem.run P (do pure (Next.value (← s))) w = .ok (.value v) w' := by
  rw [Sem.run_bind, h]; rfl
theorem run_u {s : Sem Unit} (h : s.run P w = .ok () w') : Sem.run P (do s; pure Next.skip) w = .ok .skip w' := by
  rw [Sem.run_bind, h]; rfl

theorem st_move : St P ⟨dst, .move x, ty, pos, aft, g⟩ e w (ev e x) w := by unfold St; rfl
theorem st_assign : St P ⟨dst, .assign x, ty, pos, aft, g⟩ e w (ev e x) w := by unfold St; rfl
theorem st_mv (h : ev e x = v) : St P ⟨dst, .move x, ty, pos, aft, g⟩ e w v w := by unfold St; subst h; rfl
theorem st_as (h : ev e x = v) : St P ⟨dst, .assign x, ty, pos, aft, g⟩ e w v w := by unfold St; subst h; rfl
theorem st_pick {z y : Operand} (hc : ev e c = .bool b) : St P ⟨dst, .pick c z y, ty, pos, aft, g⟩ e w (bif b then ev e z else ev e y) w := by
  unfold St
  show Sem.run P ((asBool (ev e c)).bind fun t => pure (Next.value (if t then ev e z else ev e y))) w = _
  rw [hc]
  cases b <;> rfl
theorem st_pick_t {z y : Operand} (hc : ev e c = .bool true) : St P ⟨dst, .pick c z y, ty, pos, aft, g⟩ e w (ev e z) w := st_pick (y := y) hc
theorem st_pick_f {z y : Operand} (hc : ev e c = .bool false) : St P ⟨dst, .pick c z y, ty, pos, aft, g⟩ e w (ev e y) w := st_pick (z := z) hc

theorem st_pk_t {z y : Operand} (hc : ev e c = .bool true) (h : ev e z = v) : St P ⟨dst, .pick c z y, ty, pos, aft, g⟩ e w v w := by subst h; exact st_pick (y := y) hc
theorem st_pk_f {z y : Operand} (hc : ev e c = .bool false) (h : ev e y = v) : St P ⟨dst, .pick c z y, ty, pos, aft, g⟩ e w v w := by subst h; exact st_pick (z := z) hc

/-! ### operators -/

theorem st_bin {op : BinOp} {a a' : Value} (hx : ev e x = a) (hy : ev e y = a') (h0 : (eqGuard op t x y a a').run P w = .ok () w) (h : (binOp op t a a').run P w = .ok v w) :
    St P ⟨dst, .binOp op t x y t', ty, pos, aft, g⟩ e w v w := by
  unfold St
  subst hx hy
  exact run_v (by rw [Sem.run_bind, h0]; exact h)
theorem run_eqGuard_int {op : BinOp} {k j : IntKind} : (eqGuard op t x y (.int k m) (.int j n)).run P w = .ok () w := by cases op <;> rfl
theorem run_eqGuard_bool {op : BinOp} {a b : Bool} : (eqGuard op t x y (.bool a) (.bool b)).run P w = .ok () w := by cases op <;> rfl
theorem run_eqGuard_string {op : BinOp} {a b : ByteArray} : (eqGuard op t x y (.string a) (.string b)).run P w = .ok () w := by cases op <;> rfl

variable {k : IntKind}
theorem st_lss (hx : ev e x = .int k m) (hy : ev e y = .int k n) : St P ⟨dst, .binOp .lss t x y t', ty, pos, aft, g⟩ e w (.bool (decide (m < n))) w :=
  st_bin hx hy run_eqGuard_int (by cases k <;> rfl)
theorem st_leq (hx : ev e x = .int k m) (hy : ev e y = .int k n) : St P ⟨dst, .binOp .leq t x y t', ty, pos, aft, g⟩ e w (.bool (decide (m ≤ n))) w :=
  st_bin hx hy run_eqGuard_int (by cases k <;> rfl)
theorem st_gtr (hx : ev e x = .int k m) (hy : ev e y = .int k n) : St P ⟨dst, .binOp .gtr t x y t', ty, pos, aft, g⟩ e w (.bool (decide (n < m))) w :=
  st_bin hx hy run_eqGuard_int (by cases k <;> rfl)
theorem st_geq (hx : ev e x = .int k m) (hy : ev e y = .int k n) : St P ⟨dst, .binOp .geq t x y t', ty, pos, aft, g⟩ e w (.bool (decide (n ≤ m))) w :=
  st_bin hx hy run_eqGuard_int (by cases k <;> rfl)
theorem st_eql (hx : ev e x = .int k m) (hy : ev e y = .int k n) : St P ⟨dst, .binOp .eql t x y t', ty, pos, aft, g⟩ e w (.bool (decide (m = n))) w :=
  st_bin hx hy run_eqGuard_int (by
    have : (m == n) = decide (m = n) := by by_cases h : m = n <;> simp [h]
    rw [← this]; cases k <;> rfl)
theorem st_neq (hx : ev e x = .int k m) (hy : ev e y = .int k n) : St P ⟨dst, .binOp .neq t x y t', ty, pos, aft, g⟩ e w (.bool (decide (m ≠ n))) w :=
  st_bin hx hy run_eqGuard_int (by
    have : (m != n) = decide (m ≠ n) := by by_cases h : m = n <;> simp [h]
    rw [← this]; cases k <;> rfl)
/-- Sums and differences, as they wrap around. -/
theorem st_addw (hx : ev e x = .int k m) (hy : ev e y = .int k n) : St P ⟨dst, .binOp .add t x y t', ty, pos, aft, g⟩ e w (.int k (k.wrap (m + n))) w :=
  st_bin hx hy run_eqGuard_int (by cases k <;> rfl)
theorem st_subw (hx : ev e x = .int k m) (hy : ev e y = .int k n) : St P ⟨dst, .binOp .sub t x y t', ty, pos, aft, g⟩ e w (.int k (k.wrap (m - n))) w :=
  st_bin hx hy run_eqGuard_int (by cases k <;> rfl)
theorem wrap_in {a : Int} (h0 : -9223372036854775808 ≤ a) (h1 : a ≤ 9223372036854775807) : IntKind.i64.wrap a = a := IntWalk.i64_in _ ⟨h0, h1⟩
theorem st_add (hx : ev e x = .int .i64 m) (hy : ev e y = .int .i64 n) (h0 : -9223372036854775808 ≤ m + n) (h1 : m + n ≤ 9223372036854775807) :
    St P ⟨dst, .binOp .add t x y t', ty, pos, aft, g⟩ e w (.int .i64 (m + n)) w := by
  have := st_addw (P := P) (w := w) (dst := dst) (ty := ty) (pos := pos) (aft := aft) (g := g) (t := t) (t' := t') hx hy
  rwa [wrap_in h0 h1] at this
theorem st_sub (hx : ev e x = .int .i64 m) (hy : ev e y = .int .i64 n) (h0 : -9223372036854775808 ≤ m - n) (h1 : m - n ≤ 9223372036854775807) :
    St P ⟨dst, .binOp .sub t x y t', ty, pos, aft, g⟩ e w (.int .i64 (m - n)) w := by
  have := st_subw (P := P) (w := w) (dst := dst) (ty := ty) (pos := pos) (aft := aft) (g := g) (t := t) (t' := t') hx hy
  rwa [wrap_in h0 h1] at this
theorem run_equalIn_bool {a a' : Bool} (d : Nat) (hu : P.underlying t = some .bool) : (Op.equalIn (d + 1) t (.bool a) (.bool a')).run P w = .ok (a == a') w := by
  unfold Op.equalIn
  rw [Sem.run_bind, run_underlying' hu]; rfl
theorem run_equal_bool {a a' : Bool} (hu : P.underlying t = some .bool) : (Op.equal t (.bool a) (.bool a')).run P w = .ok (a == a') w := run_equalIn_bool 9999 hu
theorem st_eqlb {a a' : Bool} (hu : P.underlying t = some .bool) (hx : ev e x = .bool a) (hy : ev e y = .bool a') : St P ⟨dst, .binOp .eql t x y t', ty, pos, aft, g⟩ e w (.bool (a == a')) w :=
  st_bin hx hy run_eqGuard_bool (by show Sem.run P (do pure (Value.bool (← Op.equal t (.bool a) (.bool a')))) w = _; rw [Sem.run_bind, run_equal_bool hu]; rfl)
theorem st_neqb {a a' : Bool} (hu : P.underlying t = some .bool) (hx : ev e x = .bool a) (hy : ev e y = .bool a') : St P ⟨dst, .binOp .neq t x y t', ty, pos, aft, g⟩ e w (.bool (!(a == a'))) w :=
  st_bin hx hy run_eqGuard_bool (by show Sem.run P (do pure (Value.bool (!(← Op.equal t (.bool a) (.bool a'))))) w = _; rw [Sem.run_bind, run_equal_bool hu]; rfl)
theorem toList_data (s : ByteArray) : s.toList = s.data.toList := ByteArray.toList_eq s
theorem beq_str (s s' : ByteArray) : (s.toList == s'.toList) = decide (s = s') := by
  rw [toList_data, toList_data]
  by_cases h : s = s'
  · subst h; simp
  · have : s.data.toList ≠ s'.data.toList := by
      intro h'
      apply h
      cases s; cases s'
      simp only [Array.toList_inj] at h'
      rw [h']
    rw [decide_eq_false h]
    simpa using this
theorem st_eqls {a a' : ByteArray} (hx : ev e x = .string a) (hy : ev e y = .string a') : St P ⟨dst, .binOp .eql t x y t', ty, pos, aft, g⟩ e w (.bool (decide (a = a'))) w := by
  rw [← beq_str]; exact st_bin hx hy run_eqGuard_string rfl
theorem st_neqs {a a' : ByteArray} (hx : ev e x = .string a) (hy : ev e y = .string a') : St P ⟨dst, .binOp .neq t x y t', ty, pos, aft, g⟩ e w (.bool (!decide (a = a'))) w := by
  rw [← beq_str]; exact st_bin hx hy run_eqGuard_string rfl
theorem st_adds {a a' : ByteArray} (hx : ev e x = .string a) (hy : ev e y = .string a') (hl : a.size + a'.size ≤ 9223372036854775807) : St P ⟨dst, .binOp .add t x y t', ty, pos, aft, g⟩ e w (.string (a ++ a')) w :=
  st_bin hx hy run_eqGuard_string (by
    show Sem.run P (if ((a.size + a'.size : Nat) : Int) > IntKind.i64.max then _ else _) w = _
    rw [if_neg (by show ¬ ((a.size + a'.size : Nat) : Int) > 9223372036854775807; omega)]; rfl)
theorem st_not (hx : ev e x = .bool b) : St P ⟨dst, .unOp .not t x, ty, pos, aft, g⟩ e w (.bool (!b)) w := by
  unfold St
  exact run_v (s := Op.unary .not (ev e x)) (by rw [hx]; rfl)

/-! ### calls of builtins -/

theorem map1 (f : Operand → Value) : (#[x] : Array Operand).map f = #[f x] := by simp
theorem map2 (f : Operand → Value) : (#[x, y] : Array Operand).map f = #[f x, f y] := by simp
theorem st_len {t0 : TypeId} {a : Option Addr} {l cp : Nat} {el : TypeId} (hu : P.underlying t0 = some (.slice el)) (hx : ev e x = .slice a l cp) :
    St P ⟨dst, .call { callee := .builtin .len, args := #[x], argTypes := #[t0] }, ty, pos, aft, g⟩ e w (.int .i64 l) w := by
  unfold St
  rw [BigFrame.execOp_builtin, BigFrame.builtin_len, map1]
  exact run_v (by
    rw [hx]
    show Sem.run P (do match ← underlying t0, Value.slice a l cp with | _, _ => _) w = _
    rw [Sem.run_bind, run_underlying' hu]; rfl)
theorem st_cap {t0 : TypeId} {a : Option Addr} {l cp : Nat} {el : TypeId} (hu : P.underlying t0 = some (.slice el)) (hx : ev e x = .slice a l cp) :
    St P ⟨dst, .call { callee := .builtin .cap, args := #[x], argTypes := #[t0] }, ty, pos, aft, g⟩ e w (.int .i64 cp) w := by
  unfold St
  rw [BigFrame.execOp_builtin, BigFrame.builtin_cap, map1]
  exact run_v (by
    rw [hx]
    show Sem.run P (do match ← underlying t0, Value.slice a l cp with | _, _ => _) w = _
    rw [Sem.run_bind, run_underlying' hu]; rfl)
theorem st_lens {t0 : TypeId} {s : ByteArray} (hu : P.underlying t0 = some .string) (hx : ev e x = .string s) :
    St P ⟨dst, .call { callee := .builtin .len, args := #[x], argTypes := #[t0] }, ty, pos, aft, g⟩ e w (.int .i64 s.size) w := by
  unfold St
  rw [BigFrame.execOp_builtin, BigFrame.builtin_len, map1]
  exact run_v (by
    rw [hx]
    show Sem.run P (do match ← underlying t0, Value.string s with | _, _ => _) w = _
    rw [Sem.run_bind, run_underlying' hu]; rfl)
theorem st_max {ats : Array TypeId} (hx : ev e x = .int k m) (hy : ev e y = .int k n) :
    St P ⟨dst, .call { callee := .builtin .max, args := #[x, y], argTypes := ats }, ty, pos, aft, g⟩ e w (.int k (if n > m then n else m)) w := by
  unfold St
  rw [BigFrame.execOp_builtin, BigFrame.builtin_max, map2]
  exact run_v (by rw [hx, hy, run_max_int2])
theorem st_min {ats : Array TypeId} (hx : ev e x = .int k m) (hy : ev e y = .int k n) :
    St P ⟨dst, .call { callee := .builtin .min, args := #[x, y], argTypes := ats }, ty, pos, aft, g⟩ e w (.int k (if n < m then n else m)) w := by
  unfold St
  rw [BigFrame.execOp_builtin, BigFrame.builtin_min, map2]
  exact run_v (by rw [hx, hy, run_min_int2])

/-! ### conversions -/

theorem st_convi {kd ks : IntKind} (hs : ∃ d, P.underlying t = some d) (hu : P.underlying t' = some (.int kd)) (hx : ev e x = .int ks m) :
    St P ⟨dst, .convert t t' x, ty, pos, aft, g⟩ e w (.int kd (kd.wrap m)) w := by
  unfold St
  refine run_v (s := convert t t' (ev e x)) ?_
  obtain ⟨d, hd⟩ := hs
  rw [hx]
  unfold convert
  rw [Sem.run_bind, run_underlying' hd, Result.andThen_ok, Sem.run_bind, run_underlying' hu]
  rfl

/-! ### memory -/

theorem st_fieldAddr {fs : Array Field} {i off : Nat} {f : Field} {bl o : Nat} (hu : P.underlying t = some (.struct fs)) (hf : fs[i]? = some f) (ho : f.offset = off)
    {z : Value} {sz by' : Nat} (hz : TI P f.type z (sz + 1) by') (hx : ev e x = .pointer (some ⟨bl, o, none⟩)) :
    St P ⟨dst, .fieldAddr t x i, ty, pos, aft, g⟩ e w (.pointer (some ⟨bl, o + off, none⟩)) w := by
  unfold St
  refine run_v (s := Instr.fieldAt t (ev e x) i) ?_
  rw [hx]
  show Sem.run P (do
    let d ← underlying t
    match d with | _ => _) w = _
  rw [Sem.run_bind, run_underlying' hu, Result.andThen_ok]
  subst ho
  simp [hf, Instr.sureAddr, fieldPlace, hz.sizeOf, add_at]

theorem st_indexAddr {el : TypeId} {bl o l cp i sz by' : Nat} {z : Value} (hu : P.underlying t = some (.slice el)) (hz : TI P el z sz by')
    {a : Option Addr} (hx : ev e x = .slice a l cp) (ha : a = some ⟨bl, o, none⟩) (hy : ev e y = .int .i64 i) (hi : i < l) :
    St P ⟨dst, .indexAddr t x y, ty, pos, aft, g⟩ e w (.pointer (some ⟨bl, o + i * sz, none⟩)) w := by
  unfold St
  refine run_v (s := Instr.indexAt t (ev e x) (ev e y)) ?_
  subst ha
  rw [hx, hy]
  have hlt : (0 : Int) ≤ i ∧ (i : Int) < l := by omega
  simp [Instr.indexAt, asIntOf, run_underlying' hu, hz.sizeOf, add_at, hi]
/-- Of an array behind an address. -/
theorem st_indexAddra {el : TypeId} {bl o l i sz by' : Nat} {z : Value} (hu : P.underlying t = some (.array l el)) (hz : TI P el z sz by')
    (hx : ev e x = .pointer (some ⟨bl, o, none⟩)) (hy : ev e y = .int k i) (hi : i < l) :
    St P ⟨dst, .indexAddr t x y, ty, pos, aft, g⟩ e w (.pointer (some ⟨bl, o + i * sz, none⟩)) w := by
  unfold St
  refine run_v (s := Instr.indexAt t (ev e x) (ev e y)) ?_
  rw [hx, hy]
  have hlt : (0 : Int) ≤ i ∧ (i : Int) < l := by omega
  simp [Instr.indexAt, asIntOf, run_underlying' hu, hz.sizeOf, add_at, hi, Instr.sureAddr]
/-- A byte of a string. -/
theorem st_index {s : ByteArray} {i : Nat} (hu : P.underlying t = some .string) (hx : ev e x = .string s) (hy : ev e y = .int k i) (hi : i < s.size) :
    St P ⟨dst, .index t x y, ty, pos, aft, g⟩ e w (.int .u8 (s[i].toNat : Nat)) w := by
  unfold St
  refine run_v (s := Instr.index t (ev e x) (ev e y)) ?_
  rw [hx, hy]
  simp [Instr.index, asIntOf, run_underlying' hu, hi]

theorem st_load {bl o : Nat} (hu : T1 P t) (hx : ev e x = .pointer (some ⟨bl, o, none⟩)) (hc : w.cell? ⟨bl, o, none⟩ = some v) :
    St P ⟨dst, .load t x, ty, pos, aft, g⟩ e w v w := by
  unfold St
  refine run_v (s := Instr.loadAt t (ev e x)) ?_
  rw [hx]
  show Sem.run P (do if ← isAgg t then _ else _) w = _
  rw [Sem.run_bind, hu.isAgg, Result.andThen_ok, if_neg (by simp)]
  show Sem.run P (Sem.load .plain _ Sem.pure) w = _
  simp [Sem.run, hc]

theorem run_loadCells {bl o : Nat} : ∀ (l : Nat) (i : Nat) (cs : List Value) (acc : Array Value), cs.length = l → (∀ j v, cs[j]? = some v → w.cell? ⟨bl, o + (i + j), none⟩ = some v) →
    (loadCellsFrom ⟨bl, o, none⟩ i l acc).run P w = .ok (acc ++ cs.toArray) w
  | 0, i, cs, acc, hl, _ => by
    have : cs = [] := List.eq_nil_of_length_eq_zero hl
    subst this
    simp [loadCellsFrom]
  | l + 1, i, cs, acc, hl, hc => by
    match cs, hl with
    | v :: cs, hl =>
      unfold loadCellsFrom
      have h0 := hc 0 v rfl
      rw [Sem.run_bind]
      have h1 : (load (Addr.add ⟨bl, o, none⟩ i)).run P w = .ok v w := by
        rw [add_at]
        show Sem.run P (Sem.load .plain _ Sem.pure) w = _
        simp only [Nat.add_zero] at h0
        simp [Sem.run, h0]
      rw [h1, Result.andThen_ok]
      rw [run_loadCells l (i + 1) cs _ (by simpa using hl) (fun j u hu => by have := hc (j + 1) u (by simpa using hu); rw [show i + 1 + j = i + (j + 1) from by omega]; exact this)]
      simp

theorem st_loada {bl o sz by' : Nat} {z : Value} {cs : List Value} (hu : TA P t) (hz : TI P t z sz by') (hx : ev e x = .pointer (some ⟨bl, o, none⟩)) (hc : Cells w bl o cs) (hl : cs.length = sz) :
    St P ⟨dst, .load t x, ty, pos, aft, g⟩ e w (.agg cs.toArray) w := by
  unfold St
  refine run_v (s := Instr.loadAt t (ev e x)) ?_
  rw [hx]
  show Sem.run P (do if ← isAgg t then _ else _) w = _
  rw [Sem.run_bind, hu.isAgg, Result.andThen_ok, if_pos rfl]
  rw [Sem.run_bind, hz.sizeOf, Result.andThen_ok, Sem.run_bind]
  unfold loadCells
  rw [run_loadCells sz 0 cs #[] hl (fun j v hv => by rw [Nat.zero_add]; exact hc j v hv)]
  simp

theorem st_extract {vs : List Value} {i : Nat} (hx : ev e x = .tuple vs.toArray) (hi : vs[i]? = some v) : St P ⟨dst, .extract x i, ty, pos, aft, g⟩ e w v w := by
  unfold St
  refine run_v (s := Instr.extract (ev e x) i) ?_
  rw [hx]
  simp [Instr.extract, hi]
theorem st_makeFunc {fn : Fn} {fs cs : List Operand} {vf vc : List Value} (hf : evs e fs = vf) (hc : evs e cs = vc) : St P ⟨dst, .makeFunc fn fs.toArray cs.toArray, ty, pos, aft, g⟩ e w (.func fn vf.toArray vc.toArray) w := by
  unfold St
  subst hf hc
  refine run_v (s := Instr.makeFunc fn (fs.toArray.map (ev e)) (cs.toArray.map (ev e))) ?_
  simp [Instr.makeFunc, evs_eq]

/-! ### pointers -/

theorem run_eqGuard_ptr {op : BinOp} {a b : Option Addr} : (eqGuard op t x y (.pointer a) (.pointer b)).run P w = .ok () w := by cases op <;> rfl
theorem st_eqlnil {te : TypeId} {a : Option Addr} (hu : P.underlying t = some (.pointer te)) (hx : ev e x = .pointer a) (hy : ev e y = .pointer none) :
    St P ⟨dst, .binOp .eql t x y t', ty, pos, aft, g⟩ e w (.bool a.isNone) w := by
  refine st_bin hx hy run_eqGuard_ptr ?_
  have h : ∀ d : Nat, (Op.equalIn (d + 1) t (.pointer a) (.pointer none)).run P w = .ok a.isNone w := fun d => by
    unfold Op.equalIn
    rw [Sem.run_bind, run_underlying' hu]
    cases a <;> rfl
  show Sem.run P (do pure (Value.bool (← Op.equal t (.pointer a) (.pointer none)))) w = _
  rw [Sem.run_bind, show (Op.equal t (.pointer a) (.pointer none)).run P w = .ok a.isNone w from h 9999]
  rfl
/-- What a run of the operation's own meaning says. -/
theorem st_binr {op : BinOp} {a a' : Value} (hx : ev e x = a) (hy : ev e y = a') (h0 : (eqGuard op t x y a a').run P w = .ok () w) (h : (binOp op t a a').run P w = .ok v w) :
    St P ⟨dst, .binOp op t x y t', ty, pos, aft, g⟩ e w v w := st_bin hx hy h0 h
theorem st_conv {a : Value} (hx : ev e x = a) (h : (convert t t' a).run P w = .ok v w) : St P ⟨dst, .convert t t' x, ty, pos, aft, g⟩ e w v w := by
  unfold St
  subst hx
  exact run_v (s := convert t t' (ev e x)) h
theorem ef_conv {a : Value} {R : Value → World → Prop} (hx : ev e x = a) (h : ∃ v w', (convert t t' a).run P w = .ok v w' ∧ R v w') : ∃ v w', St P ⟨dst, .convert t t' x, ty, pos, aft, g⟩ e w v w' ∧ R v w' := by
  obtain ⟨v, w', h1, h2⟩ := h
  refine ⟨v, w', ?_, h2⟩
  unfold St
  subst hx
  exact run_v (s := convert t t' (ev e x)) h1

/-! ### what makes memory -/

/-- A new variable. -/
def New (w : World) (T : TypeId) (cs : List Value) (v : Value) (w' : World) : Prop := ∃ bl, v = .pointer (some ⟨bl, 0, none⟩) ∧ w.heap.size ≤ bl ∧ Blk w' bl T cs ∧ Ext w w'

theorem ext_push (w : World) (o : Obj) : Ext w { w with heap := w.heap.push o } := by
  refine ⟨rfl, rfl, rfl, by simp, fun k hk _ => ?_⟩
  show (w.heap.push o)[k]? = _
  rw [Array.getElem?_push, if_neg (by omega)]
theorem blk_push (w : World) (T : TypeId) (cs : List Value) : Blk { w with heap := w.heap.push (.cells cs.toArray T) } w.heap.size T cs := by
  unfold Blk
  show (w.heap.push _)[w.heap.size]? = _
  rw [Array.getElem?_push, if_pos rfl]

theorem run_newVar (T : TypeId) (v : Value) : (newVar T v).run P w = .ok ⟨w.heap.size, 0, none⟩ { w with heap := w.heap.push (.cells v.cells T) } := rfl

theorem ef_box {cs : List Value} (hx : (ev e x).cells = cs.toArray) : ∃ v w', St P ⟨dst, .box t x, ty, pos, aft, g⟩ e w v w' ∧ New w t cs v w' := by
  refine ⟨_, _, ?_, ⟨w.heap.size, rfl, Nat.le_refl _, blk_push w t cs, ext_push _ _⟩⟩
  unfold St
  refine run_v (s := Instr.box t (ev e x)) ?_
  show Sem.run P (do pure (Value.pointer (some (← newVar t (ev e x))))) w = _
  rw [Sem.run_bind, run_newVar, hx]; rfl
theorem ef_alloc {z : Value} {sz by' : Nat} (hz : TI P t z sz by') : ∃ v w', St P ⟨dst, .alloc t, ty, pos, aft, g⟩ e w v w' ∧ New w t z.cells.toList v w' := by
  refine ⟨_, _, ?_, ⟨w.heap.size, rfl, Nat.le_refl _, blk_push w t z.cells.toList, ext_push _ _⟩⟩
  unfold St
  refine run_v (s := Instr.alloc t true (.tuple #[])) ?_
  show Sem.run P (do
    let zero ← zeroValue t
    pure (Value.pointer (some (← newVar t zero)))) w = _
  rw [Sem.run_bind, hz.zero, Result.andThen_ok, Sem.run_bind, run_newVar]; rfl

/-! ### stores -/

theorem setCell_blk {bl i : Nat} {T : TypeId} {cs : List Value} (h : Blk w bl T cs) (v : Value) : Blk (w.setCell ⟨bl, i, none⟩ v) bl T (cs.set i v) := by
  unfold Blk at *
  simp only [World.setCell, Array.getElem?_modify, if_pos, h]
  simp
theorem setCell_fro (bl i : Nat) (v : Value) : Fro (· = bl) w (w.setCell ⟨bl, i, none⟩ v) := by
  refine ⟨rfl, rfl, rfl, by simp [World.setCell], fun k _ hs => ?_⟩
  simp only [World.setCell, Array.getElem?_modify]
  rw [if_neg (fun h => hs h.symm)]

/-- The value of one cell. -/
def one : Value → Bool
  | .agg _ | .tuple _ => false
  | _ => true
theorem run_store {bl i : Nat} {T : TypeId} {cs : List Value} (h : Blk w bl T cs) (hi : i < cs.length) (hv : one v = true) :
    (store ⟨bl, i, none⟩ v).run P w = .ok () (w.setCell ⟨bl, i, none⟩ v) := by
  show Sem.run P (Sem.store .plain _ v (.pure ())) w = _
  have h1 : w.cell? ⟨bl, i, none⟩ = some cs[i] := h.cell i (by simp [hi])
  have h2 := h.thaw i
  cases v <;> simp [one] at hv <;> simp [Sem.run, h1, h2]

/-- A store into one cell of a block that is known. -/
theorem su_store {bl i by' : Nat} {z : Value} {T : TypeId} {cs : List Value} (hz : TI P t z 1 by') (hx : ev e x = .pointer (some ⟨bl, i, none⟩)) (hb : Blk w bl T cs) (hi : i < cs.length)
    (hv : one (ev e y) = true) (hy : ev e y = v) :
    ∃ w', Su P ⟨none, .store t x y, ty, pos, aft, g⟩ e w w' ∧ Blk w' bl T (cs.set i v) ∧ Fro (· = bl) w w' := by
  refine ⟨_, ?_, setCell_blk hb v, setCell_fro _ _ _⟩
  unfold Su
  refine run_u (s := Instr.storeAt t (ev e x) (ev e y)) ?_
  rw [hx]
  rw [hy] at hv ⊢
  have hc : v.cells = #[v] := by cases v <;> simp [one] at hv <;> rfl
  show Sem.run P (do
    if v.cells.size ≠ (← sizeOf t) then stuck "storeVar: the value has not the size of the variable"
    storeCells ⟨bl, i, none⟩ v.cells.toList) w = _
  rw [Sem.run_bind, hz.sizeOf, Result.andThen_ok, hc]
  simp only [Array.size_singleton, ne_eq, not_true_eq_false, if_false]
  show Sem.run P (do
    store (Addr.add ⟨bl, i, none⟩ 0) v
    storeCells ⟨bl, i, none⟩ [] 1) w = _
  rw [Sem.run_bind, add_at, Nat.add_zero, run_store hb hi hv]
  rfl

theorem run_storeCells {bl o : Nat} {T : TypeId} : ∀ (vs : List Value) (i : Nat) (w : World) (cs : List Value), Blk w bl T cs → o + i + vs.length ≤ cs.length → (∀ v ∈ vs, one v = true) →
    ∃ w', (storeCells ⟨bl, o, none⟩ vs i).run P w = .ok () w' ∧ Blk w' bl T (cs.take (o + i) ++ vs ++ cs.drop (o + i + vs.length)) ∧ Fro (· = bl) w w'
  | [], i, w, cs, hb, _, _ => ⟨w, rfl, by simpa using hb, Fro.refl _ _⟩
  | v :: vs, i, w, cs, hb, hl, hv => by
    simp only [List.length_cons] at hl
    have hs := run_store (P := P) (v := v) hb (i := o + i) (by omega) (hv v (by simp))
    obtain ⟨w', h1, h2, h3⟩ := run_storeCells (bl := bl) (o := o) (T := T) vs (i + 1) (w.setCell ⟨bl, o + i, none⟩ v) (cs.set (o + i) v) (setCell_blk hb v) (by rw [List.length_set]; omega) (fun u hu => hv u (by simp [hu]))
    refine ⟨w', ?_, ?_, (setCell_fro _ _ _).trans h3⟩
    · unfold storeCells
      rw [Sem.run_bind, add_at, hs, Result.andThen_ok]
      exact h1
    · have e1 : (cs.set (o + i) v).take (o + (i + 1)) = cs.take (o + i) ++ [v] := by
        rw [show o + (i + 1) = o + i + 1 from by omega, List.take_succ_eq_append_getElem (by simp; omega)]
        simp [List.take_set_of_le]
      have e2 : (cs.set (o + i) v).drop (o + (i + 1) + vs.length) = cs.drop (o + i + (v :: vs).length) := by
        rw [List.drop_set_of_lt (by omega)]
        congr 1
        simp; omega
      rw [e1, e2] at h2
      simpa using h2

/-- A store of a struct over a part of a block. -/
theorem su_storea {bl o sz by' : Nat} {z : Value} {T : TypeId} {cs vs : List Value} (hz : TI P t z sz by') (hx : ev e x = .pointer (some ⟨bl, o, none⟩)) (hb : Blk w bl T cs)
    (hy : ev e y = .agg vs.toArray) (hl : vs.length = sz) (hi : o + vs.length ≤ cs.length) (hv : vs.all one = true) :
    ∃ w', Su P ⟨none, .store t x y, ty, pos, aft, g⟩ e w w' ∧ Blk w' bl T (cs.take o ++ vs ++ cs.drop (o + vs.length)) ∧ Fro (· = bl) w w' := by
  obtain ⟨w', h1, h2, h3⟩ := run_storeCells (P := P) (o := o) vs 0 w cs hb (by omega) (by simpa using hv)
  refine ⟨w', ?_, by simpa using h2, h3⟩
  unfold Su
  refine run_u (s := Instr.storeAt t (ev e x) (ev e y)) ?_
  rw [hx, hy]
  show Sem.run P (do
    if (Value.agg vs.toArray).cells.size ≠ (← sizeOf t) then stuck "storeVar: the value has not the size of the variable"
    storeCells ⟨bl, o, none⟩ (Value.agg vs.toArray).cells.toList) w = _
  rw [Sem.run_bind, hz.sizeOf, Result.andThen_ok]
  simp only [Value.cells, List.size_toArray, hl, ne_eq, not_true_eq_false, if_false]
  exact h1
end

/-! ### steps that make or write memory -/

section
variable {P : Program} {n : Nat} {ds : List Deferred} {ops : Array Oper} {Q : Exit → Env → World → Prop} {rest : List Oper} {o : Oper} {e : Env} {w : World} {d : Nat}

theorem WL_ef {R : Value → World → Prop} (hr : ∃ v w', St P o e w v w' ∧ R v w') (hg : o.guard = none) (hd : o.dst = some d) (hn : lt' d n = true)
    (k : ∀ v w', R v w' → WL P n ds ops Q rest (upd e d v) w') : WL P n ds ops Q (o :: rest) e w :=
  let ⟨v, w', h1, h2⟩ := hr
  WL_val hg hd hn h1 (k v w' h2)
/-- A region that draws its order, its first k operations only reading: from a world that differs in the count of draws alone. -/
theorem W_tailx {id : Nat} {l : List Oper} (k : Nat) (hm : P.follows .mixedOrders = true) (hB : Region.lexTailB .any l.toArray k = true)
    (h : ∀ w1, Ext w w1 → w1.heap = w.heap → WS P n ds l.toArray w1 (fun e' => WL P n ds l.toArray Q (l.drop k) e' w1) (l.take k) e) : W P n ds (.region id l.toArray true) Q e w :=
  W_tail k hm hB (h _ ((Ext.refl w).drew _) rfl)

theorem WL_su {R : World → Prop} (hr : ∃ w', Su P o e w w' ∧ R w') (hg : o.guard = none) (hd : o.dst = none)
    (k : ∀ w', R w' → WL P n ds ops Q rest e w') : WL P n ds ops Q (o :: rest) e w :=
  let ⟨w', h1, h2⟩ := hr
  WL_do hg hd h1 (k w' h2)
end
end Go.Proofs.YtndfhicdabdafaaDoor
