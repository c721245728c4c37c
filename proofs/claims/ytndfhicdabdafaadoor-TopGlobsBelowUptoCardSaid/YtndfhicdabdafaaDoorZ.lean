/- What is read of a glob that comes in: its parts as Lean has them, and a bound on what they hold. -/
import Derived.Test.YtndfhicdabdafaaDoorRows
import Derived.Test.YtndfhicdabdafaaDoorX
import Derived.ProofKit
import Derived.OpenShut
namespace Go.Proofs.YtndfhicdabdafaaDoor
open Go Go.RowKit Go.ChangeShapes Go.WideShapes

theorem bulk_pos {H : Type} (d : DataW H) : 1 ≤ Rows.uptoBulk d := by
  cases d with
  | lit l => cases l <;> simp [Rows.uptoBulk]
  | nil => simp [Rows.uptoBulk]
  | ptr d => simp [Rows.uptoBulk]
  | slice elems spare => simp [Rows.uptoBulk]
  | agg parts => simp [Rows.uptoBulk]
  | iface t d => simp [Rows.uptoBulk]
  | map entries => simp [Rows.uptoBulk]
  | held h => simp [Rows.uptoBulk]
theorem bulk_len {H : Type} (l : List (DataW H)) : l.length ≤ Rows.uptoBulkAll l := by
  induction l with
  | nil => simp [Rows.uptoBulkAll]
  | cons x r ih => have := bulk_pos x; simp only [Rows.uptoBulkAll, List.length_cons]; omega
theorem bulk_slice {H : Type} (a b : List (DataW H)) : Rows.uptoBulk (.slice a b) = Rows.uptoBulkAll a + Rows.uptoBulkAll b + 1 := by simp [Rows.uptoBulk]
theorem bulk_agg {H : Type} (a : List (DataW H)) : Rows.uptoBulk (.agg a) = Rows.uptoBulkAll a + 1 := by simp [Rows.uptoBulk]
theorem bulk_cons {H : Type} (a : DataW H) (b : List (DataW H)) : Rows.uptoBulkAll (a :: b) = Rows.uptoBulk a + Rows.uptoBulkAll b := by simp [Rows.uptoBulkAll]
theorem bulk_nil {H : Type} : Rows.uptoBulkAll ([] : List (DataW H)) = 0 := by simp [Rows.uptoBulkAll]

section
variable {H : Type} {enc : TypeId × Value → H} {P : Program} {w : World} {base : Nat} {spare : Nat → Bool} {held : Bool} {fuel : Nat} {t : TypeId} {cs : List Value} {x : DataW H × List MemPlace}
theorem trod_s5 {f0 f1 f2 f3 f4 : Field} (ht : P.underlying t = some (.struct #[f0, f1, f2, f3, f4])) (h : DataW.trod enc P w base spare held fuel t cs = some x) :
    ∃ y0 y1 y2 y3 y4 n, fuel = n + 1 ∧ x.1 = .agg [y0.1, y1.1, y2.1, y3.1, y4.1] ∧ cs.length = P.cellsOf t ∧ DataW.trod enc P w base spare held n f0.type ((cs.drop f0.offset).take (P.cellsOf f0.type)) = some y0 ∧
      DataW.trod enc P w base spare held n f1.type ((cs.drop f1.offset).take (P.cellsOf f1.type)) = some y1 ∧ DataW.trod enc P w base spare held n f2.type ((cs.drop f2.offset).take (P.cellsOf f2.type)) = some y2 ∧
      DataW.trod enc P w base spare held n f3.type ((cs.drop f3.offset).take (P.cellsOf f3.type)) = some y3 ∧ DataW.trod enc P w base spare held n f4.type ((cs.drop f4.offset).take (P.cellsOf f4.type)) = some y4 := by
  obtain ⟨xs, n, hn, rfl, hl, hlen, hf⟩ := DataW.trod_struct ht h
  match xs, hlen with
  | [y0, y1, y2, y3, y4], _ => exact ⟨y0, y1, y2, y3, y4, n, hn, by simp, hl, by simpa using hf 0 f0 rfl, by simpa using hf 1 f1 rfl, by simpa using hf 2 f2 rfl, by simpa using hf 3 f3 rfl, by simpa using hf 4 f4 rfl⟩
theorem trod_s3 {f0 f1 f2 : Field} (ht : P.underlying t = some (.struct #[f0, f1, f2])) (h : DataW.trod enc P w base spare held fuel t cs = some x) :
    ∃ y0 y1 y2 n, fuel = n + 1 ∧ x.1 = .agg [y0.1, y1.1, y2.1] ∧ cs.length = P.cellsOf t ∧ DataW.trod enc P w base spare held n f0.type ((cs.drop f0.offset).take (P.cellsOf f0.type)) = some y0 ∧
      DataW.trod enc P w base spare held n f1.type ((cs.drop f1.offset).take (P.cellsOf f1.type)) = some y1 ∧ DataW.trod enc P w base spare held n f2.type ((cs.drop f2.offset).take (P.cellsOf f2.type)) = some y2 := by
  obtain ⟨xs, n, hn, rfl, hl, hlen, hf⟩ := DataW.trod_struct ht h
  match xs, hlen with
  | [y0, y1, y2], _ => exact ⟨y0, y1, y2, n, hn, by simp, hl, by simpa using hf 0 f0 rfl, by simpa using hf 1 f1 rfl, by simpa using hf 2 f2 rfl⟩
theorem trod_pair {e : TypeId} (ht : P.underlying t = some (.array 2 e)) (he : P.underlying e = some (.int .i64)) (hc : P.cellsOf e = 1) (h2 : P.cellsOf t = 2) (h : DataW.trod enc P w base spare held fuel t cs = some x) :
    ∃ a b : Int, cs = [.int .i64 a, .int .i64 b] := by
  cases fuel with
  | zero => simp [DataW.trod] at h
  | succ n =>
    unfold DataW.trod at h
    rw [ht] at h
    dsimp only at h
    split at h
    · rename_i hl
      rw [h2] at hl
      match cs, hl with
      | [c0, c1], _ =>
        obtain ⟨ys, hys, _⟩ := Option.map_eq_some_iff.1 h
        simp only [hc, List.range_succ, List.range_zero, List.nil_append, List.cons_append, List.mapM_cons, List.mapM_nil, Nat.zero_mul, Nat.one_mul, List.drop_zero, List.take_succ_cons, List.take_zero, List.drop_succ_cons] at hys
        obtain ⟨y0, h0, hys⟩ := Option.bind_eq_some_iff.1 hys
        obtain ⟨ys2, h1, _⟩ := Option.bind_eq_some_iff.1 hys
        obtain ⟨y1, h1, _⟩ := Option.bind_eq_some_iff.1 h1
        obtain ⟨a, ha, _⟩ := DataW.trod_int he h0
        obtain ⟨b, hb, _⟩ := DataW.trod_int he h1
        injection ha with ha
        injection hb with hb
        exact ⟨a, b, by rw [ha, hb]⟩
    · cases h

/-- A slice that is read: its elements, at their places. -/
theorem trod_sl {e : TypeId} {sz : Nat} (ht : P.underlying t = some (.slice e)) (hc : P.cellsOf e = sz) (hp : 0 < sz) (h : DataW.trod enc P w 0 spare held fuel t cs = some x) :
    (cs = [.slice none 0 0] ∧ x.1 = .nil) ∨
    ∃ (b o len cap n : Nat) (sp : Option _) (ys : List (DataW H × List MemPlace)) (rest : List (DataW H)), n < fuel ∧ cs = [.slice (some ⟨b, o, sp⟩) len cap] ∧ x.1 = .slice (ys.map (·.1)) rest ∧ ys.length = len ∧
      ∀ i, (hi : i < ys.length) → ∃ cs', sp = none ∧ b < w.heap.size ∧ cs'.length = sz ∧ Cells w b (o + i * sz) cs' ∧ DataW.trod enc P w 0 spare held n e cs' = some ys[i] := by
  rcases DataW.trod_slice ht h with ⟨h0, h1⟩ | ⟨⟨b, o, sp⟩, len, cap, elems, rest, n, hf, hcs, hx, _, _, _, hlen, hel, _⟩
  · exact .inl ⟨h0, by rw [h1]⟩
  right
  have key : ∀ i, (hi : i < elems.length) → ∃ cs', w.cells? 0 ((⟨b, o, sp⟩ : Addr).add (i * P.cellsOf e)) (P.cellsOf e) = some cs' ∧ DataW.trod enc P w 0 spare held n e cs' = some elems[i] := by
    intro i hi
    have h1 := hel i (by omega)
    rw [List.getElem?_eq_getElem hi] at h1
    obtain ⟨cs', h2, h3⟩ := Option.bind_eq_some_iff.1 h1
    exact ⟨cs', h2, h3⟩
  have hsp : 0 < elems.length → sp = none ∧ b < w.heap.size := by
    intro h0
    obtain ⟨cs', h1, _⟩ := key 0 h0
    obtain ⟨_, hl, hcell⟩ := World.cells?_some h1
    have h2 := hcell 0 (by omega)
    rw [List.getElem?_eq_getElem (by omega)] at h2
    have h3 : w.cell? ⟨b, o, sp⟩ = some (cs'[0]'(by omega)) := by
      rw [Nat.zero_mul] at h2
      exact h2
    exact ⟨World.cell?_spot h3, lt_of_cell h3⟩
  refine ⟨b, o, len, cap, n, sp, elems, rest.map (·.1), by omega, hcs, by rw [hx], hlen, fun i hi => ?_⟩
  obtain ⟨h4, h5⟩ := hsp (by omega)
  obtain ⟨cs', h1, h2⟩ := key i hi
  obtain ⟨_, hl, hcell⟩ := World.cells?_some h1
  refine ⟨cs', h4, h5, by omega, ?_, h2⟩
  intro j v hj
  have hjl : j < P.cellsOf e := by rw [← hl]; exact (List.getElem?_eq_some_iff.1 hj).1
  have h3 := hcell j hjl
  subst h4
  rw [add_at, add_at, hj, hc] at h3
  exact h3
end

section
variable {H : Type} {enc : TypeId × Value → H} {W : World} {sp : Nat → Bool} {hd : Bool}
theorem ranges_open {fuel : Nat} {cs : List Value} {x : DataW H × List MemPlace} (h : DataW.trod enc Tryd.prog W 0 sp hd fuel 30 cs = some x) (hb : Rows.uptoBulk x.1 ≤ 1048576) :
    ∃ v rs, cs = [v] ∧ RangesAt (· < W.heap.size) W v rs ∧ rs.length + 1 ≤ Rows.uptoBulk x.1 := by
  rcases trod_sl (sz := 2) Tryd.underlying30 (by kernel_rfl) (by decide) h with ⟨rfl, hx⟩ | ⟨b, o, len, cap, n, spo, ys, rest, hn, rfl, hx, hlen, hall⟩
  · refine ⟨_, [], rfl, ⟨none, 0, rfl, Nat.zero_le _, .inl rfl⟩, ?_⟩
    rw [hx]; simp [Rows.uptoBulk]
  have hl : ys.length ≤ 1048576 := by
    rw [hx, bulk_slice] at hb
    have := bulk_len (ys.map (·.1))
    rw [List.length_map] at this
    omega
  have key : ∀ (m k : Nat), k + m = ys.length → ∃ rs : List (Int × Int), rs.length = m ∧ ∀ i cs, (rs.map fun p : Int × Int => [Value.int .i64 p.1, .int .i64 p.2])[i]? = some cs → Cells W b (o + (k + i) * 2) cs := by
    intro m
    induction m with
    | zero => intro k _; exact ⟨[], rfl, fun i cs h => by simp at h⟩
    | succ m ih =>
      intro k hk
      obtain ⟨rs, h1, h2⟩ := ih (k + 1) (by omega)
      obtain ⟨cs', _, _, _, h3, h4⟩ := hall k (by omega)
      obtain ⟨p, q, rfl⟩ := trod_pair Tryd.underlying44 Tryd.underlying3 (by kernel_rfl) (by kernel_rfl) h4
      refine ⟨(p, q) :: rs, by rw [List.length_cons, h1], fun i cs hi => ?_⟩
      cases i with
      | zero => simp at hi; subst hi; exact h3
      | succ i =>
        have := h2 i cs (by simpa using hi)
        rw [show k + (i + 1) = k + 1 + i by omega]
        exact this
  obtain ⟨rs, h1, h2⟩ := key ys.length 0 (by omega)
  refine ⟨_, rs, rfl, ⟨some ⟨b, o, spo⟩, cap, by rw [List.length_map, h1, hlen], by rw [List.length_map]; omega, ?_⟩, ?_⟩
  · rcases Nat.eq_zero_or_pos ys.length with h0 | h0
    · left; rw [List.length_eq_zero_iff.1 (h1.trans h0)]; rfl
    · obtain ⟨_, h3, h4, _⟩ := hall 0 h0
      subst h3
      exact .inr ⟨b, o, h4, rfl, fun i cs hi => by have := h2 i cs hi; rwa [Nat.zero_add] at this⟩
  · rw [hx, bulk_slice]
    have := bulk_len (ys.map (·.1))
    rw [List.length_map] at this
    omega
theorem take1 (l : List Value) (h : l.length = 5) : ∃ a b c d e, l = [a, b, c, d, e] := by
  match l, h with
  | [a, b, c, d, e], _ => exact ⟨a, b, c, d, e, rfl⟩
theorem parts_open : ∀ (fuel : Nat) (cs : List Value) (x : DataW H × List MemPlace), DataW.trod enc Tryd.prog W 0 sp hd fuel 22 cs = some x → Rows.uptoBulk x.1 ≤ 1048576 →
    ∃ v ps, cs = [v] ∧ PartsAt (· < W.heap.size) W v ps ∧ szL ps + 1 ≤ Rows.uptoBulk x.1 := by
  intro fuel
  induction fuel using Nat.strongRecOn with
  | _ fuel ih =>
  intro cs x h hb
  rcases trod_sl (sz := 5) Tryd.underlying22 (by kernel_rfl) (by decide) h with ⟨rfl, hx⟩ | ⟨b, o, len, cap, n, spo, ys, rest, hn, rfl, hx, hlen, hall⟩
  · refine ⟨_, [], rfl, ⟨[], ⟨none, 0, rfl, Nat.zero_le _, .inl rfl⟩, by rw [PartsAll]⟩, ?_⟩
    rw [hx, szL_nil]; simp [Rows.uptoBulk]
  have hb1 : Rows.uptoBulkAll (ys.map (·.1)) + 1 ≤ Rows.uptoBulk x.1 := by rw [hx, bulk_slice]; omega
  have hl : ys.length ≤ 1048576 := by
    have := bulk_len (ys.map (·.1))
    rw [List.length_map] at this
    omega
  -- the ways of a part
  have ways : ∀ (m : Nat) (cs : List Value) (x : DataW H × List MemPlace), m < fuel → DataW.trod enc Tryd.prog W 0 sp hd m 31 cs = some x → Rows.uptoBulk x.1 ≤ 1048576 →
      ∃ v ws, cs = [v] ∧ WaysAt (· < W.heap.size) W v ws ∧ szW ws + 1 ≤ Rows.uptoBulk x.1 := by
    intro m cs x hm h hb
    rcases trod_sl (sz := 1) Tryd.underlying31 (by kernel_rfl) (by decide) h with ⟨rfl, hx⟩ | ⟨b, o, len, cap, n2, spo, ys, rest, hn2, rfl, hx, hlen, hall⟩
    · refine ⟨_, [], rfl, ⟨[], ⟨none, 0, rfl, Nat.zero_le _, .inl rfl⟩, by rw [WaysAll]⟩, ?_⟩
      rw [hx, szW_nil]; simp [Rows.uptoBulk]
    have hb1 : Rows.uptoBulkAll (ys.map (·.1)) + 1 ≤ Rows.uptoBulk x.1 := by rw [hx, bulk_slice]; omega
    have hl : ys.length ≤ 1048576 := by
      have := bulk_len (ys.map (·.1))
      rw [List.length_map] at this
      omega
    have key : ∀ (zs : List (DataW H × List MemPlace)) (k : Nat), ys.drop k = zs → Rows.uptoBulkAll (zs.map (·.1)) ≤ 1048576 → ∃ (vs : List Value) (ws : List (List Part)), vs.length = zs.length ∧ WaysAll (· < W.heap.size) W ws vs ∧ szW ws ≤ Rows.uptoBulkAll (zs.map (·.1)) ∧
        ∀ i cs, (vs.map fun v => [v])[i]? = some cs → Cells W b (o + (k + i) * 1) cs := by
      intro zs
      induction zs with
      | nil => intro k _ _; exact ⟨[], [], rfl, by rw [WaysAll], by rw [szW_nil]; exact Nat.zero_le _, fun i cs h => by simp at h⟩
      | cons z zs ihz =>
        intro k hk hbz
        rw [List.map_cons, bulk_cons] at hbz
        have hk1 : k < ys.length := by
          rcases Nat.lt_or_ge k ys.length with h | h
          · exact h
          · rw [List.drop_eq_nil_of_le h] at hk; cases hk
        rw [List.drop_eq_getElem_cons hk1] at hk
        injection hk with hk2 hk3
        obtain ⟨vs, ws, h1, h2, h3, h4⟩ := ihz (k + 1) hk3 (by omega)
        obtain ⟨cs', _, _, _, h5, h6⟩ := hall k hk1
        rw [hk2] at h6
        obtain ⟨v, ps, rfl, h7, h8⟩ := ih n2 (by omega) cs' z h6 (by omega)
        obtain ⟨css, h9, h10⟩ := h7
        refine ⟨v :: vs, ps :: ws, by rw [List.length_cons, List.length_cons, h1], by rw [WaysAll]; exact ⟨v, vs, css, rfl, h9, h10, h2⟩, by rw [szW_cons, List.map_cons, bulk_cons]; omega, fun i cs hi => ?_⟩
        cases i with
        | zero => simp at hi; subst hi; exact h5
        | succ i =>
          have := h4 i cs (by simpa using hi)
          rw [show k + (i + 1) = k + 1 + i by omega]
          exact this
    obtain ⟨vs, ws, h1, h2, h3, h4⟩ := key ys 0 (by simp) (by omega)
    have h5 := h2.vals.1
    refine ⟨_, ws, rfl, ⟨vs, ⟨some ⟨b, o, spo⟩, cap, by rw [List.length_map, h1, hlen], by rw [List.length_map]; omega, ?_⟩, h2⟩, by omega⟩
    rcases Nat.eq_zero_or_pos ys.length with h0 | h0
    · left; rw [List.length_eq_zero_iff.1 (h1.trans h0)]; rfl
    · obtain ⟨_, h6, h7, _⟩ := hall 0 h0
      subst h6
      exact .inr ⟨b, o, h7, rfl, fun i cs hi => by have := h4 i cs hi; rwa [Nat.zero_add] at this⟩
  have key : ∀ (zs : List (DataW H × List MemPlace)) (k : Nat), ys.drop k = zs → Rows.uptoBulkAll (zs.map (·.1)) ≤ 1048576 → ∃ (css : List (List Value)) (ps : List Part), css.length = zs.length ∧ PartsAll (· < W.heap.size) W ps css ∧ szL ps ≤ Rows.uptoBulkAll (zs.map (·.1)) ∧
      ∀ i cs, css[i]? = some cs → Cells W b (o + (k + i) * 5) cs := by
    intro zs
    induction zs with
    | nil => intro k _ _; exact ⟨[], [], rfl, by rw [PartsAll], by rw [szL_nil]; exact Nat.zero_le _, fun i cs h => by simp at h⟩
    | cons z zs ihz =>
      intro k hk hbz
      rw [List.map_cons, bulk_cons] at hbz
      have hk1 : k < ys.length := by
        rcases Nat.lt_or_ge k ys.length with h | h
        · exact h
        · rw [List.drop_eq_nil_of_le h] at hk; cases hk
      rw [List.drop_eq_getElem_cons hk1] at hk
      injection hk with hk2 hk3
      obtain ⟨css, ps, h1, h2, h3, h4⟩ := ihz (k + 1) hk3 (by omega)
      obtain ⟨cs', _, _, hl5, h5, h6⟩ := hall k hk1
      rw [hk2] at h6
      obtain ⟨y0, y1, y2, y3, y4, n3, hn3, hz, _, t0, t1, t2, t3, t4⟩ := trod_s5 Tryd.underlying33 h6
      obtain ⟨c0, c1, c2, c3, c4, rfl⟩ := take1 cs' hl5
      have e1 : Tryd.prog.cellsOf 3 = 1 := by kernel_rfl
      have e2 : Tryd.prog.cellsOf 9 = 1 := by kernel_rfl
      have e3 : Tryd.prog.cellsOf 4 = 1 := by kernel_rfl
      have e4 : Tryd.prog.cellsOf 30 = 1 := by kernel_rfl
      have e5 : Tryd.prog.cellsOf 31 = 1 := by kernel_rfl
      dsimp only at t0 t1 t2 t3 t4
      rw [e1] at t0
      rw [e2] at t1
      rw [e3] at t2
      rw [e4] at t3
      rw [e5] at t4
      obtain ⟨a0, g0, q0, _⟩ := DataW.trod_int Tryd.underlying3 t0
      obtain ⟨a1, g1, q1, _⟩ := DataW.trod_string Tryd.underlying9 t1
      obtain ⟨a2, g2, q2⟩ := DataW.trod_bool Tryd.underlying4 t2
      have hzb : Rows.uptoBulk z.1 = Rows.uptoBulk y0.1 + (Rows.uptoBulk y1.1 + (Rows.uptoBulk y2.1 + (Rows.uptoBulk y3.1 + (Rows.uptoBulk y4.1 + 0)))) + 1 := by
        rw [hz, bulk_agg, bulk_cons, bulk_cons, bulk_cons, bulk_cons, bulk_cons, bulk_nil]
      have hy1 : Rows.uptoBulk y1.1 = a1.size + 1 := by
        rw [q1]
        show Rows.uptoBulk (DataW.lit (Lit.string a1.data.toList)) = _
        simp only [Rows.uptoBulk, Array.length_toList]
        rfl
      obtain ⟨a3, rs, g3, r3, s3⟩ := ranges_open t3 (by omega)
      have hn4 : n3 < fuel := by omega
      have hb4 : Rows.uptoBulk y4.1 ≤ 1048576 := by omega
      obtain ⟨a4, ws, g4, r4, s4⟩ := ways n3 [c4] y4 hn4 t4 hb4
      have g0' : [c0] = [Value.int .i64 a0] := g0
      have g1' : [c1] = [Value.string a1] := g1
      have g2' : [c2] = [Value.bool a2] := g2
      have g3' : [c3] = [a3] := g3
      have g4' : [c4] = [a4] := g4
      injection g0' with g0'
      injection g1' with g1'
      injection g2' with g2'
      injection g3' with g3'
      injection g4' with g4'
      subst g0' g1' g2' g3' g4'
      have hp0 := bulk_pos y0.1
      refine ⟨[.int .i64 a0, .string a1, .bool a2, c3, c4] :: css, Part.mk a0 a1 a2 rs ws :: ps, by rw [List.length_cons, List.length_cons, h1], by rw [PartsAll]; exact ⟨_, css, rfl, PartAt_iff.2 ⟨_, _, rfl, r3, r4⟩, h2⟩, ?_, fun i cs hi => ?_⟩
      · rw [szL_cons, List.map_cons, bulk_cons, Part.sz_eq]
        show 1 + a1.size + rs.length + szW ws + szL ps ≤ _
        omega
      · cases i with
        | zero => simp at hi; subst hi; exact h5
        | succ i =>
          have := h4 i cs (by simpa using hi)
          rw [show k + (i + 1) = k + 1 + i by omega]
          exact this
  obtain ⟨css, ps, h1, h2, h3, h4⟩ := key ys 0 (by simp) (by omega)
  refine ⟨_, ps, rfl, ⟨css, ⟨some ⟨b, o, spo⟩, cap, by rw [h1, hlen], by omega, ?_⟩, h2⟩, by omega⟩
  rcases Nat.eq_zero_or_pos ys.length with h0 | h0
  · exact .inl (List.length_eq_zero_iff.1 (h1.trans h0))
  · obtain ⟨_, h6, h7, _⟩ := hall 0 h0
    subst h6
    exact .inr ⟨b, o, h7, rfl, fun i cs hi => by have := h4 i cs hi; rwa [Nat.zero_add] at this⟩
/-- A glob that is read. -/
theorem glob_open {v : Value} {d : DataW H} {p : List MemPlace} (h : DataW.Trod enc Tryd.prog W 0 sp hd 24 v d p) (hb : Rows.uptoBulk d ≤ 1048576) (hv : ∃ cs, v = .agg cs) :
    ∃ rt dr u ps, v = .agg #[.bool rt, .bool dr, u] ∧ PartsAt (· < W.heap.size) W u ps ∧ szL ps ≤ 1048576 := by
  obtain ⟨fuel, h⟩ := h
  obtain ⟨ar, rfl⟩ := hv
  obtain ⟨y0, y1, y2, n, hn, hx, hl, t0, t1, t2⟩ := trod_s3 Tryd.underlying24 h
  have e0 : Tryd.prog.cellsOf 24 = 3 := by kernel_rfl
  have e1 : Tryd.prog.cellsOf 4 = 1 := by kernel_rfl
  have e2 : Tryd.prog.cellsOf 22 = 1 := by kernel_rfl
  have hl3 : ar.toList.length = 3 := by rw [e0] at hl; exact hl
  obtain ⟨c0, c1, c2, hcs⟩ : ∃ a b c, ar.toList = [a, b, c] := by
    match ar.toList, hl3 with
    | [a, b, c], _ => exact ⟨a, b, c, rfl⟩
  have har : ar = #[c0, c1, c2] := by apply Array.toList_inj.1; rw [hcs]
  subst har
  dsimp only at t0 t1 t2
  rw [e1] at t0 t1
  rw [e2] at t2
  obtain ⟨a0, g0, _⟩ := DataW.trod_bool Tryd.underlying4 t0
  obtain ⟨a1, g1, _⟩ := DataW.trod_bool Tryd.underlying4 t1
  have hd2 : Rows.uptoBulk y2.1 ≤ Rows.uptoBulk d := by
    have hx' : d = .agg [y0.1, y1.1, y2.1] := hx
    rw [hx', bulk_agg, bulk_cons, bulk_cons, bulk_cons, bulk_nil]
    omega
  obtain ⟨u, ps, g2, h3, h4⟩ := parts_open n _ y2 t2 (by omega)
  have g0' : [c0] = [Value.bool a0] := g0
  have g1' : [c1] = [Value.bool a1] := g1
  have g2' : [c2] = [u] := g2
  injection g0' with g0'
  injection g1' with g1'
  injection g2' with g2'
  subst g0' g1' g2'
  exact ⟨a0, a1, _, ps, rfl, h3, by omega⟩
end
end Go.Proofs.YtndfhicdabdafaaDoor
