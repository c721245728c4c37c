/- Slices that the call itself makes: append, slicing, literals; strings cut and joined. -/
import Derived.Test.YtndfhicdabdafaaDoorKb
namespace Go.Proofs.YtndfhicdabdafaaDoor
open Go Go.RowKit

/-- The slice v, n elements of sz cells each (all of them: xs), lies in block g, which is its own; or it is nil. -/
def Own (w : World) (T sz : Nat) (v : Value) (n : Nat) (xs : List Value) (g : Nat) : Prop :=
  xs.length = n * sz ∧ ((v = .slice none 0 0 ∧ n = 0) ∨ ∃ cap junk, v = .slice (some ⟨g, 0, none⟩) n cap ∧ Blk w g T (xs ++ junk) ∧ (xs ++ junk).length = cap * sz ∧ n ≤ cap)

theorem Own.fro {S : Nat → Prop} {w w' : World} {T sz n g : Nat} {v : Value} {xs : List Value} (h : Own w T sz v n xs g) (hx : Fro S w w') (hs : ¬ S g) : Own w' T sz v n xs g := by
  obtain ⟨h1, h2⟩ := h
  refine ⟨h1, ?_⟩
  rcases h2 with h2 | ⟨cap, junk, hv, hb, hr⟩
  · exact .inl h2
  · exact .inr ⟨cap, junk, hv, hb.fro hx hs, hr⟩
theorem Own.ext {w w' : World} {T sz n g : Nat} {v : Value} {xs : List Value} (h : Own w T sz v n xs g) (hx : Ext w w') : Own w' T sz v n xs g := h.fro hx id
theorem Own.nil (w : World) (T sz g : Nat) : Own w T sz (.slice none 0 0) 0 [] g := ⟨by simp, .inl ⟨rfl, rfl⟩⟩
theorem Own.form {w : World} {T sz n g : Nat} {v : Value} {xs : List Value} (h : Own w T sz v n xs g) : ∃ a cap, v = .slice a n cap ∧ (0 < n → a = some ⟨g, 0, none⟩ ∧ g < w.heap.size) := by
  rcases h.2 with ⟨rfl, rfl⟩ | ⟨cap, junk, rfl, hb, _⟩
  · exact ⟨none, 0, rfl, fun h => by omega⟩
  · exact ⟨_, cap, rfl, fun _ => ⟨rfl, hb.lt⟩⟩
/-- Its cells. -/
theorem Own.cells {w : World} {T sz n g : Nat} {a : Option Addr} {l cap : Nat} {xs : List Value} (h : Own w T sz (.slice a l cap) n xs g) (hn : 0 < n) : a = some ⟨g, 0, none⟩ ∧ l = n ∧ Cells w g 0 xs := by
  rcases h.2 with ⟨hv, h0⟩ | ⟨cap', junk, hv, hb, _⟩
  · omega
  · cases hv
    refine ⟨rfl, rfl, fun i v hi => ?_⟩
    rw [Nat.zero_add]
    exact hb.cell i (by rw [List.getElem?_append_left (List.getElem?_eq_some_iff.1 hi).1]; exact hi)

section
variable {P : Program} {e : Env} {w w' : World} {dst : Option Tmp} {ty : TypeId} {pos : String} {aft : Array Edge} {g : Option (Nat × Bool)}
  {x y s : Operand} {t t' : TypeId}

/-- What is appended: m elements, these cells. -/
structure Src (P : Program) (w : World) (sz : Nat) (x : Value) (m : Nat) (news : List Value) : Prop where
  len : (Builtin.lenOf x).run P w = .ok m w
  cells : ∀ nd, (Builtin.firstCells sz m x).run P { w with drawn := nd } = .ok news.toArray { w with drawn := nd }

theorem src_slice {sz : Nat} {a : Option Addr} {m c : Nat} {news : List Value} (hl : news.length = m * sz) (hc : m = 0 ∨ ∃ b o, a = some ⟨b, o, none⟩ ∧ Cells w b o news) (h0 : m = 0 → news = []) :
    Src P w sz (.slice a m c) m news := by
  refine ⟨rfl, fun nd => ?_⟩
  rcases hc with rfl | ⟨b, o, rfl, hc⟩
  · rw [h0 rfl]
    cases a with
    | none => rfl
    | some a =>
      show (loadCells a (0 * sz)).run P _ = _
      rw [Nat.zero_mul]; rfl
  · show (loadCellsFrom ⟨b, o, none⟩ 0 (m * sz) #[]).run P _ = _
    rw [run_loadCells (m * sz) 0 news #[] hl (fun j v hv => by rw [Nat.zero_add]; exact hc j v hv)]
    simp
theorem src_string {st : ByteArray} {news : List Value} (hn : news = st.data.toList.map fun b => Value.int .u8 b.toNat) : Src P w 1 (.string st) st.size news := by
  refine ⟨rfl, fun nd => ?_⟩
  subst hn
  show Sem.run P (pure ((st.extract 0 st.size).data.map fun b => Value.int .u8 b.toNat)) _ = _
  have : st.extract 0 st.size = st := by simp
  rw [this]
  show Result.ok (st.data.map fun b => Value.int .u8 (b.toNat : Int)) _ = Result.ok _ _
  congr 1
  apply Array.toList_inj.1
  rw [Array.toList_map]

def isSl (d : TypeDesc) : Prop := (∃ T, d = .slice T) ∨ d = .string
theorem isSl_slice {T : TypeId} : isSl (.slice T) := .inl ⟨T, rfl⟩
theorem isSl_string : isSl .string := .inr rfl

theorem run_append {T sz bytes n m gb : Nat} {v z : Value} {xs news : List Value} {xv : Value} {d : TypeDesc} (hu : P.underlying t = some (.slice T)) (hd : P.underlying t' = some d) (hdi : isSl d)
    (hz : TI P T z sz bytes) (hzs : z.cells.size = sz) (hown : Own w T sz v n xs gb) (hsrc : Src P w sz xv m news) (hl : news.length = m * sz) (h1 : news.all one = true)
    (hb : (n + m) * bytes ≤ 140737488355328) (h63 : n + m ≤ 4611686018427387904) :
    ∃ v' w' g', (Builtin.append_ #[t, t'] ty #[v, xv]).run P w = .ok v' w' ∧ Own w' T sz v' (n + m) (xs ++ news) g' ∧ Fro (· = gb) w w' ∧ (g' = gb ∨ w.heap.size ≤ g') ∧ (v = .slice none 0 0 → n + m = 0 → v' = .slice none 0 0) := by
  obtain ⟨i, hi, hz0, hz1, hz2⟩ := hz.run (w := w)
  have hi' : P.info? T = some i := by
    obtain ⟨i', h', _⟩ := hz
    have : (typeInfo T).run P w = .ok i' w := by
      show Sem.run P (match P.info? T with | some i => pure i | none => stuck "no such type") w = _
      rw [h']; rfl
    rw [this] at hi
    cases hi
    exact h'
  have htake : ∀ (k : Nat), k = xs.length → (xs ++ news).length = (n + m) * sz := fun _ _ => by rw [List.length_append, hown.1, hl, Nat.add_mul]
  have hlen := htake _ rfl
  -- a new row
  have grow : ∀ (sCap : Nat) (base : Option Addr), sCap < n + m → v = .slice base n sCap → (∀ nd, (Builtin.firstCells sz n v).run P { w with drawn := nd } = .ok xs.toArray { w with drawn := nd }) →
      ∃ v' w' g', (Builtin.append_ #[t, t'] ty #[v, xv]).run P w = .ok v' w' ∧ Own w' T sz v' (n + m) (xs ++ news) g' ∧ Fro (· = gb) w w' ∧ (g' = gb ∨ w.heap.size ≤ g') ∧ (v = .slice none 0 0 → n + m = 0 → v' = .slice none 0 0) := by
    intro sCap base hcap hv hfc
    subst hv
    have h63' : ¬ (9223372036854775807 < ((n : Int) + (m : Int))) := by omega
    have hfit := growslice_fits (bytes := bytes) hcap hb
    have h48' : ¬ (281474976710656 < Builtin.nextslicecap (n + m) sCap * i.bytes) := by rw [hz2]; omega
    have hn : ¬ (n + m ≤ sCap) := by omega
    have hge := grownCap_ge w (n + m) sCap T
    refine ⟨.slice (some ⟨w.heap.size, 0, none⟩) (n + m) (grownCap w (n + m) sCap T), w.drew.alloc (.cells (xs.toArray ++ news.toArray ++ Builtin.zeroCells z.cells (grownCap w (n + m) sCap T - (n + m))) T), w.heap.size, ?_, ?_, ?_, .inr (Nat.le_refl _), fun _ h => by omega⟩
    · have hc := hfc w.drew.drawn
      have hs := hsrc.cells w.drew.drawn
      have e1 : ({ w with drawn := w.drew.drawn } : World) = w.drew := rfl
      rw [e1] at hc hs
      rcases hdi with ⟨T2, rfl⟩ | rfl <;> simp [Builtin.append_, run_underlying' hu, run_underlying' hd, sizeOf, typeInfo, zeroValue, hi', hz0, hz1, hsrc.len, hn, h63', h48', Question.forced, hc, hs, newRow, grownCap] <;> rw [← List.append_toArray, Array.append_assoc]
    · refine ⟨hlen, .inr ⟨grownCap w (n + m) sCap T, (Builtin.zeroCells z.cells (grownCap w (n + m) sCap T - (n + m))).toList, rfl, ?_, ?_, hge⟩⟩
      · have := heap_alloc_new w.drew (.cells (xs.toArray ++ news.toArray ++ Builtin.zeroCells z.cells (grownCap w (n + m) sCap T - (n + m))) T)
        show (w.drew.alloc _).heap[w.heap.size]? = _
        rw [show w.heap.size = w.drew.heap.size from rfl, this]
        congr 2
        simp
      · rw [List.length_append, hlen, Array.length_toList, size_zeroCells, hzs, ← Nat.add_mul]
        congr 1
        omega
    · exact ⟨rfl, rfl, rfl, by simp, fun k hk _ => Below.heap_alloc w.drew _ k hk⟩
  rcases hown.2 with ⟨rfl, rfl⟩ | ⟨cap, junk, rfl, hblk, hjl, hnc⟩
  · have hx : xs = [] := List.eq_nil_of_length_eq_zero (by simpa using hown.1)
    subst hx
    by_cases hm : m = 0
    · subst hm
      have hn : news = [] := List.eq_nil_of_length_eq_zero (by simpa using hl)
      subst hn
      refine ⟨.slice none 0 0, w, gb, ?_, Own.nil w T sz gb, Fro.refl _ _, .inl rfl, fun _ _ => rfl⟩
      have hs := hsrc.cells w.drawn
      have e1 : ({ w with drawn := w.drawn } : World) = w := rfl
      rw [e1] at hs
      rcases hdi with ⟨T2, rfl⟩ | rfl <;> simp [Builtin.append_, run_underlying' hu, run_underlying' hd, sizeOf, typeInfo, hi', hz1, hsrc.len, hs]
    · exact grow 0 none (by omega) rfl (fun nd => rfl)
  · by_cases hroom : n + m ≤ cap
    · have hfit : n * sz + news.length ≤ (xs ++ junk).length := by rw [hl, hjl, ← Nat.add_mul]; exact Nat.mul_le_mul_right _ hroom
      obtain ⟨w', h2, h3, h4⟩ := run_storeCells (P := P) (o := n * sz) news 0 w (xs ++ junk) hblk (by omega) (by simpa using h1)
      refine ⟨_, w', gb, ?_, ⟨hlen, .inr ⟨cap, junk.drop news.length, rfl, ?_, ?_, hroom⟩⟩, h4, .inl rfl, fun h => by cases h⟩
      · have hs := hsrc.cells w.drawn
        have e1 : ({ w with drawn := w.drawn } : World) = w := rfl
        rw [e1] at hs
        have h2' : (storeCells (Addr.add ⟨gb, 0, none⟩ (n * sz)) news).run P w = .ok () w' := by
          rw [add_at, Nat.zero_add]
          exact h2
        rcases hdi with ⟨T2, rfl⟩ | rfl <;> simp [Builtin.append_, run_underlying' hu, run_underlying' hd, sizeOf, typeInfo, hi', hz1, hsrc.len, hroom, hs, h2']
      · have e1 : (xs ++ junk).take (n * sz + 0) ++ news ++ (xs ++ junk).drop (n * sz + 0 + news.length) = xs ++ news ++ junk.drop news.length := by
          rw [Nat.add_zero, ← hown.1, List.take_left]
          congr 1
          rw [List.drop_append, List.drop_eq_nil_of_le (by omega), List.nil_append]
          congr 1
          omega
        rw [← e1]
        exact h3
      · rw [List.length_append, hlen, List.length_drop]
        rw [List.length_append, hown.1] at hjl
        have : (n + m) * sz ≤ cap * sz := Nat.mul_le_mul_right _ hroom
        rw [hl]
        rw [Nat.add_mul] at *
        omega
    · refine grow cap _ (by omega) rfl (fun nd => ?_)
      have hs := src_slice (P := P) (w := w) (sz := sz) (a := some ⟨gb, 0, none⟩) (m := n) (c := cap) (news := xs) hown.1 (.inr ⟨gb, 0, rfl, fun i v hi => by
        rw [Nat.zero_add]
        exact hblk.cell i (by rw [List.getElem?_append_left (List.getElem?_eq_some_iff.1 hi).1]; exact hi)⟩) (fun h0 => List.eq_nil_of_length_eq_zero (by rw [hown.1, h0, Nat.zero_mul]))
      exact hs.cells nd

/-- append(s, x...). -/
theorem ef_append {T sz bytes n m gb : Nat} {v z xv : Value} {xs news : List Value} {d : TypeDesc} (hu : P.underlying t = some (.slice T)) (hd : P.underlying t' = some d) (hdi : isSl d)
    (hz : TI P T z sz bytes) (hzs : z.cells.size = sz) (hs : ev e s = v) (hown : Own w T sz v n xs gb) (hx : ev e x = xv) (hsrc : Src P w sz xv m news) (hl : news.length = m * sz) (h1 : news.all one = true)
    (hb : (n + m) * bytes ≤ 140737488355328) (h63 : n + m ≤ 4611686018427387904) :
    ∃ v' w', St P ⟨dst, .call { callee := .builtin .append, args := #[s, x], argTypes := #[t, t'] }, ty, pos, aft, g⟩ e w v' w' ∧
      ∃ g', Own w' T sz v' (n + m) (xs ++ news) g' ∧ Fro (· = gb) w w' ∧ (g' = gb ∨ w.heap.size ≤ g') ∧ (v = .slice none 0 0 → n + m = 0 → v' = .slice none 0 0) := by
  obtain ⟨v', w', g', hr, h2, h3, h4⟩ := run_append (ty := ty) hu hd hdi hz hzs hown hsrc hl h1 hb h63
  refine ⟨v', w', ?_, g', h2, h3, h4⟩
  unfold St
  rw [BigFrame.execOp_builtin, BigFrame.builtin_append, map2]
  exact run_v (by rw [hs, hx]; exact hr)

/-! ### slices of slices and of strings -/

theorem st_slices {st : ByteArray} {lo hi : Option Operand} {a b : Nat} (hu : P.underlying t = some .string) (hx : ev e x = .string st)
    (hlo : (lo.map (ev e) = none ∧ a = 0) ∨ lo.map (ev e) = some (.int .i64 a)) (hhi : (hi.map (ev e) = none ∧ b = st.size) ∨ hi.map (ev e) = some (.int .i64 b)) (hab : a ≤ b) (hbs : b ≤ st.size) :
    St P ⟨dst, .slice t x lo hi none, ty, pos, aft, g⟩ e w (.string (st.extract a b)) w := by
  unfold St
  refine run_v (s := Instr.sliceAt t (ev e x) (lo.map (ev e)) (hi.map (ev e)) none) ?_
  rw [hx]
  have hab' : (0 : Int) ≤ a ∧ (a : Int) ≤ b := by omega
  have hbs' : (0 : Int) ≤ b ∧ (b : Int) ≤ st.size := by omega
  rcases hlo with ⟨h1, rfl⟩ | h1 <;> rcases hhi with ⟨h2, rfl⟩ | h2 <;> rw [h1, h2] <;>
    simp [Instr.sliceAt, Instr.slice, Instr.sliceBounds, Instr.sliceBound, asIntOf, run_underlying' hu, hab, hbs]
theorem st_slice {T sz bytes : Nat} {z : Value} {ad : Option Addr} {l c : Nat} {lo hi : Option Operand} {a b : Nat} (hu : P.underlying t = some (.slice T)) (hz : TI P T z sz bytes) (hx : ev e x = .slice ad l c)
    (hlo : (lo.map (ev e) = none ∧ a = 0) ∨ lo.map (ev e) = some (.int .i64 a)) (hhi : (hi.map (ev e) = none ∧ b = l) ∨ hi.map (ev e) = some (.int .i64 b)) (hab : a ≤ b) (hbs : b ≤ c) :
    St P ⟨dst, .slice t x lo hi none, ty, pos, aft, g⟩ e w (.slice (if c = a then ad else ad.map (·.add (a * sz))) (b - a) (c - a)) w := by
  unfold St
  refine run_v (s := Instr.sliceAt t (ev e x) (lo.map (ev e)) (hi.map (ev e)) none) ?_
  rw [hx]
  have hab' : (0 : Int) ≤ a ∧ (a : Int) ≤ b := by omega
  have hbs' : (0 : Int) ≤ b ∧ (b : Int) ≤ c := by omega
  rcases hlo with ⟨h1, rfl⟩ | h1 <;> rcases hhi with ⟨h2, rfl⟩ | h2 <;> rw [h1, h2] <;>
    simp [Instr.sliceAt, Instr.slice, Instr.sliceBounds, Instr.sliceBound, asIntOf, run_underlying' hu, hab, hbs, hz.sizeOf]
/-- From the beginning on: the same place. -/
theorem st_slice0 {T sz bytes : Nat} {z : Value} {ad : Option Addr} {l c : Nat} {hi : Option Operand} {b : Nat} (hu : P.underlying t = some (.slice T)) (hz : TI P T z sz bytes) (hx : ev e x = .slice ad l c) (hsp : ∀ a, ad = some a → a.spot = none)
    (hhi : (hi.map (ev e) = none ∧ b = l) ∨ hi.map (ev e) = some (.int .i64 b)) (hbs : b ≤ c) :
    St P ⟨dst, .slice t x none hi none, ty, pos, aft, g⟩ e w (.slice ad b c) w := by
  have h := st_slice (P := P) (w := w) (dst := dst) (ty := ty) (pos := pos) (aft := aft) (g := g) (lo := none) hu hz hx (.inl ⟨rfl, rfl⟩) hhi (Nat.zero_le _) hbs
  have e1 : (if c = 0 then ad else ad.map (·.add (0 * sz))) = ad := by
    split
    · rfl
    · cases ad with
      | none => rfl
      | some a => simp [Addr.add]
  rw [e1] at h
  simpa using h

/-! ### literals -/

theorem run_places {fs : Array Field} {pl : List (Nat × Nat)} (h : ∀ w, (fs.mapM fun f => do pure (f.offset, ← sizeOf f.type) : Sem (Array (Nat × Nat))).run P w = .ok pl.toArray w) :
    (fs.mapM fun f => do pure (f.offset, ← sizeOf f.type) : Sem (Array (Nat × Nat))).run P w = .ok pl.toArray w := h w

/-- A struct literal. -/
theorem st_build {fs : Array Field} {pl : List (Nat × Nat)} {parts : List (Nat × Operand)} {z : Value} {sz by' : Nat} {cs : List Value} (hz : TI P t z sz by') (hu : P.underlying t = some (.struct fs))
    (hp : ∀ w, (fs.mapM fun f => do pure (f.offset, ← sizeOf f.type) : Sem (Array (Nat × Nat))).run P w = .ok pl.toArray w)
    (hf : Instr.fill (pl.toArray[·]?) z.cells (parts.map fun p => (p.1, ev e p.2)) = some cs.toArray) :
    St P ⟨dst, .build t parts.toArray, ty, pos, aft, g⟩ e w (.agg cs.toArray) w := by
  unfold St
  refine run_v (s := Instr.build t (parts.toArray.map fun (i, x) => (i, ev e x))) ?_
  have hm : (parts.toArray.map fun (i, x) => (i, ev e x)).toList = parts.map fun p => (p.1, ev e p.2) := by simp
  unfold Instr.build
  simp only [Sem.run_bind, hz.zero, Result.andThen_ok, run_underlying' hu, hp, hm, hf]
  rfl

theorem run_buildSlice {T sz bytes len : Nat} {z : Value} {parts : List (Nat × Value)} {cs : List Value} (hu : P.underlying t = some (.slice T)) (hz : TI P T z sz bytes) (hl : ¬ (len * sz > 2 ^ 24)) (h0 : ¬ (len * sz = 0))
    (hf : Instr.fill (fun i => some (i * sz, sz)) ((Array.range (len * sz)).map (z.cells[· % z.cells.size]!)) parts = some cs.toArray) :
    (Instr.buildSlice t len parts.toArray).run P w = .ok (.slice (some ⟨w.heap.size, 0, none⟩) len len) { w with heap := w.heap.push (.cells cs.toArray T) } := by
  unfold Instr.buildSlice
  rw [Sem.run_bind, run_underlying' hu, Result.andThen_ok]
  dsimp only
  rw [Sem.run_bind, hz.sizeOf, Result.andThen_ok, if_neg hl, if_neg h0, Sem.run_bind, hz.zero, Result.andThen_ok, Sem.run_bind, Sem.run_pure, Result.andThen_ok, hf]
  rfl

/-- A slice literal of elements. -/
theorem ef_buildSlice {T sz bytes len : Nat} {z : Value} {parts : List (Nat × Operand)} {cs : List Value} (hu : P.underlying t = some (.slice T)) (hz : TI P T z sz bytes) (hl' : ¬ (len * sz > 2 ^ 24)) (h0' : ¬ (len * sz = 0))
    (hf : Instr.fill (fun i => some (i * sz, sz)) ((List.range (len * sz)).map (z.cells[· % z.cells.size]!)).toArray (parts.map fun p => (p.1, ev e p.2)) = some cs.toArray) :
    ∃ v w', St P ⟨dst, .buildSlice t len parts.toArray, ty, pos, aft, g⟩ e w v w' ∧ ∃ g', v = .slice (some ⟨g', 0, none⟩) len len ∧ w.heap.size ≤ g' ∧ Blk w' g' T cs ∧ Ext w w' := by
  have hm : (parts.toArray.map fun (i, x) => (i, ev e x)) = (parts.map fun p => (p.1, ev e p.2)).toArray := by simp
  have h1 : execOp (ev e) ⟨dst, .buildSlice t len parts.toArray, ty, pos, aft, g⟩ = (do pure (Next.value (← Instr.buildSlice t len (parts.toArray.map fun (i, x) => (i, ev e x))))) := rfl
  have h2 : St P ⟨dst, .buildSlice t len parts.toArray, ty, pos, aft, g⟩ e w (.slice (some ⟨w.heap.size, 0, none⟩) len len) { w with heap := w.heap.push (.cells cs.toArray T) } := by
    unfold St
    rw [h1, hm]
    have hr : (Array.range (len * sz)).map (z.cells[· % z.cells.size]!) = ((List.range (len * sz)).map (z.cells[· % z.cells.size]!)).toArray := by
      apply Array.toList_inj.1
      simp
    exact run_v (run_buildSlice hu hz hl' h0' (by rw [hr]; exact hf))
  exact ⟨_, _, h2, w.heap.size, rfl, Nat.le_refl _, blk_push w T cs, ext_push _ _⟩

/-- A call of a function without a Go body. -/
theorem st_ext {f : FuncId} {as : List Value} {xs : List Operand} {ats : Array TypeId} {v : Value} (hx : evs e xs = as) (h : (callFunc f as.toArray).run P w = .ok (.value v) w) :
    St P ⟨dst, .call { callee := .value (.func f), args := xs.toArray, argTypes := ats }, ty, pos, aft, g⟩ e w v w := by
  unfold St
  have h1 : execOp (ev e) ⟨dst, .call { callee := .value (.func f), args := xs.toArray, argTypes := ats }, ty, pos, aft, g⟩ = callFunc f (#[] ++ xs.toArray.map (ev e) ++ #[]) := rfl
  have h2 : (#[] ++ xs.toArray.map (ev e) ++ #[] : Array Value) = as.toArray := by subst hx; simp [evs_eq]
  rw [h1, h2, h]

theorem st_nilCheck {a : Addr} (hx : ev e x = .pointer (some a)) : St P ⟨dst, .nilCheck x, ty, pos, aft, g⟩ e w (.pointer (some a)) w := by
  unfold St
  have h1 : execOp (ev e) ⟨dst, .nilCheck x, ty, pos, aft, g⟩ = pure (.value (.pointer (some a))) := by
    simp only [execOp, hx]
  rw [h1]; rfl
end
end Go.Proofs.YtndfhicdabdafaaDoor
