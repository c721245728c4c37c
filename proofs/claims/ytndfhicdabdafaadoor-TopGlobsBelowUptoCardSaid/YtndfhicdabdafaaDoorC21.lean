/- Walks of wWays, wJoined, Below. -/
import Derived.Test.YtndfhicdabdafaaDoorC20
namespace Go.Proofs.YtndfhicdabdafaaDoor
open Go Go.RowKit

theorem wWays_ok (n0 : Nat) (v : Value) (ws : List (List Part)) (w : World) (hn : n0 ≤ w.heap.size) (hw : WaysAt (fun k => n0 ≤ k ∧ k < w.heap.size) w v ws) :
    Fun Tryd.prog 7 [v] w (fun r w' => Ext w w' ∧ POwn n0 w' r [.mk 6 ⟨#[]⟩ false [] ws]) := by
  obtain ⟨a, cp, rfl, hlen⟩ := hw.form
  refine fun1 Tryd.func7 rfl (by kernel_rfl) rfl rfl rfl ?_
  refine W_seq ?_
  refine W_region ?_
  refine WL_val rfl rfl rfl (st_as (v := (.slice none 0 0)) rfl) ?_
  refine WL_nil ?_
  refine W_seq ?_
  refine W_region ?_
  refine WL_val rfl rfl rfl (st_mv (v := .slice _ _ _) rfl) ?_
  refine WL_val rfl rfl rfl (st_build (pl := [(0, 1), (1, 1), (2, 1), (3, 1), (4, 1)]) (cs := [.int .i64 6, .string ⟨#[]⟩, .bool false, .slice none 0 0, .slice a ws.length cp]) ti33 Tryd.underlying33 (fun _ => by kernel_rfl) rfl) ?_
  refine WL_ef (ef_buildSlice (len := 1) (cs := [.int .i64 6, .string ⟨#[]⟩, .bool false, .slice none 0 0, .slice a ws.length cp]) Tryd.underlying22 ti33 (by decide) (by decide) rfl) rfl rfl rfl ?_
  rintro _ wq2 ⟨gn, rfl, hgn, hbn, hx2⟩
  refine WL_val rfl rfl rfl (st_as (v := .slice _ _ _) rfl) ?_
  refine WL_nil ?_
  refine W_ret ?_
  refine qr1 ?_
  have hsz := hx2.size
  have hgl := hbn.lt
  refine ⟨hx2, [[.int .i64 6, .string ⟨#[]⟩, .bool false, .slice none 0 0, .slice a ws.length cp]], gn, ⟨rfl, .inr ⟨1, [], rfl, by simpa using hbn, rfl, Nat.le_refl _⟩⟩, by omega, PartsAll.one (PartAt_iff.2 ⟨_, _, rfl, ⟨none, 0, rfl, Nat.zero_le _, .inl rfl⟩, WaysAt.mono (hw.ext hx2) (fun k hk => ?_)⟩)⟩
  obtain ⟨h1, h2⟩ := hk
  exact ⟨by omega, by omega, by omega⟩
theorem joinAdd_text {or : List Part} {p q : Part} (h1 : p.kind = 1) (h2 : q.kind = 1) : List.foldl joinAdd (or ++ [q]) [p] = or ++ [.mk q.kind (q.text ++ p.text) q.neg q.ranges q.ways] := by
  show joinAdd (or ++ [q]) p = _
  unfold joinAdd
  rw [List.getLast?_append]
  dsimp only [List.getLast?_singleton, Option.or]
  rw [if_pos ⟨h1, h2⟩, List.dropLast_concat]
theorem joinAdd_other {out : List Part} {p : Part} (h : ∀ q, out.getLast? = some q → p.kind = 1 → q.kind = 1 → False) : List.foldl joinAdd out [p] = out ++ [p] := by
  show joinAdd out p = _
  unfold joinAdd
  split
  · rename_i q hq
    rw [if_neg (fun hk => h q hq hk.1 hk.2)]
  · rfl
theorem joinAdd_len (out : List Part) (p : Part) : (joinAdd out p).length ≤ out.length + 1 := by
  unfold joinAdd
  split
  · split
    · rw [List.length_append, List.length_dropLast, List.length_singleton]; omega
    · rw [List.length_append, List.length_singleton]; omega
  · rw [List.length_append, List.length_singleton]; omega
theorem joinL_len_take (ps : List Part) (k : Nat) : ((ps.take k).foldl joinAdd []).length ≤ k := by
  have key : ∀ (l out : List Part), (l.foldl joinAdd out).length ≤ out.length + l.length := by
    intro l
    induction l with
    | nil => intro out; exact Nat.le_refl _
    | cons p l ih =>
      intro out
      have h1 := ih (joinAdd out p)
      have h2 := joinAdd_len out p
      rw [List.foldl_cons, List.length_cons]
      omega
  have h1 := key (ps.take k) []
  rw [List.length_take, List.length_nil] at h1
  omega
theorem PartsAll.last {D : Nat → Prop} {w : World} {out or : List Part} {q : Part} {css : List (List Value)} (h : out = or ++ [q]) (hP : PartsAll D w out css) : ∃ cr cq, css = cr ++ [cq] ∧ PartsAll D w or cr ∧ PartAt D w q cq := by
  subst h
  induction or generalizing css with
  | nil =>
    rw [List.nil_append, PartsAll] at hP
    obtain ⟨c, r, rfl, h1, h2⟩ := hP
    rw [PartsAll] at h2
    subst h2
    exact ⟨[], c, rfl, by rw [PartsAll], h1⟩
  | cons p or ih =>
    rw [List.cons_append, PartsAll] at hP
    obtain ⟨c, r, rfl, h1, h2⟩ := hP
    obtain ⟨cr, cq, rfl, h3, h4⟩ := ih h2
    exact ⟨c :: cr, cq, rfl, by rw [PartsAll]; exact ⟨c, cr, rfl, h1, h3⟩, h4⟩
theorem set_flat {o i : Nat} {v : Value} (cr : List (List Value)) (cq junk : List Value) (h : cr.flatten.length = o * 5) (hi : i < cq.length) :
    ((cr ++ [cq]).flatten ++ junk).set (0 + o * 5 + i) v = (cr ++ [cq.set i v]).flatten ++ junk := by
  simp only [List.flatten_append, List.flatten_cons, List.flatten_nil, List.append_nil, List.append_assoc]
  rw [List.set_append_right _ _ (by omega), List.set_append_left _ _ (by omega), show 0 + o * 5 + i - cr.flatten.length = i by omega]
set_option maxHeartbeats 1000000 in
theorem wJoined_ok (D : Nat → Prop) (v : Value) (ps : List Part) (w : World) (hD : ∀ k, D k → k < w.heap.size) (hpsO : PartsAt D w v ps) (hnst : nstL ps ≤ 1000000000) :
    Fun Tryd.prog 8 [v] w (fun r w' => Ext w w' ∧ PartsAt (fun k => D k ∨ (w.heap.size ≤ k ∧ k < w'.heap.size)) w' r (joinL ps)) := by
  obtain ⟨a, cp, rfl, hpl⟩ := hpsO.form
  have hps := hpsO
  refine fun1 Tryd.func8 rfl (by kernel_rfl) rfl rfl rfl ?_
  refine W_seq ?_
  refine W_region ?_
  refine WL_val rfl rfl rfl (st_as (v := (.slice none 0 0)) rfl) ?_
  refine WL_nil ?_
  refine W_seq ?_
  refine W_region ?_
  refine WL_val rfl rfl rfl (st_as (v := (.slice none 0 0)) rfl) ?_
  refine WL_nil ?_
  refine W_seq ?_
  refine W_seq ?_
  refine W_region ?_
  refine WL_val rfl rfl rfl (st_mv (v := .slice _ _ _) rfl) ?_
  refine WL_val rfl rfl rfl (st_len Tryd.underlying22 rfl) ?_
  refine WL_val rfl rfl rfl (st_mv (v := (.int .i64 0)) rfl) ?_
  refine WL_nil ?_
  refine W_block ?_
  refine W_loop [3, 9] [3, 5, 6, 9, 10, 11, 12, 13, 14, 15, 16, 17, 18, 19, 20, 21, 22, 23, 24, 25, 26, 27, 28, 29, 30, 31, 32, 33, 34, 35, 36, 37, 38, 39, 40, 41, 42, 43, 44, 45, 46] (fun m' vs w1 => ∃ (k : Nat) (v1 : Value) (css : List (List Value)) (g : Nat) (out : List Part), k + m' = ps.length ∧ vs = [v1, .int .i64 (k : Int)] ∧ (ps.take k).foldl joinAdd [] = out ∧ Own w1 33 5 v1 out.length css.flatten g ∧ w.heap.size ≤ g ∧ PartsAll D w1 out css ∧ Ext w w1 ∧ ∀ q ∈ out, q.text.size ≤ nstL (ps.take k)) ?_ ?_
  · exact ⟨ps.length, 0, _, [], w.heap.size, [], by omega, rfl, rfl, Own.nil _ _ _ _, Nat.le_refl _, by rw [PartsAll], Ext.refl w, fun q hq => by cases hq⟩
  · intro m3 vs w1 u hI
    obtain ⟨k, v1, css, g, out, hk, rfl, hout, hown, hg, hPs, hx, htx⟩ := hI
    replace hps := hpsO.ext hx
    obtain ⟨a1, c1, rfl, hp1⟩ := hown.form
    obtain ⟨hcl, hc5, hco⟩ := hPs.cells
    have hsz1 := hx.size
    have hol : out.length ≤ k := by rw [← hout]; exact joinL_len_take ps k
    refine W_seq ?_
    refine W_region ?_
    refine WL_val rfl rfl rfl (st_lss rfl rfl) ?_
    refine WL_nil ?_
    refine W_seq ?_
    refine W_cond rfl (fun h10 => ?_) (fun h10 => ?_)
    · have g10 := of_decide_eq_true h10
      refine W_skip ?_
      refine W_seq ?_
      refine W_block ?_
      refine W_seq ?_
      have hk' : k < ps.length := by omega
      obtain ⟨pb, po, rv, wv, hpD, hpa, hpc, hpr, hpw⟩ := hps.at hk'
      obtain ⟨p, hp⟩ : ∃ p, p = ps[k] := ⟨_, rfl⟩
      rw [← hp] at hpc hpr hpw
      obtain ⟨wa, wcp, rfl, hwlen⟩ := hpw.form
      obtain ⟨ra, rcp, rfl, hrlen⟩ := hpr.form
      refine W_region ?_
      refine WL_val rfl rfl rfl (st_indexAddr Tryd.underlying22 ti33 rfl hpa rfl (by omega)) ?_
      refine WL_val rfl rfl rfl (st_loada ⟨_, Tryd.underlying33, rfl⟩ ti33 rfl hpc rfl) ?_
      refine WL_ef (ef_alloc ti33) rfl rfl rfl ?_
      rintro _ w3 ⟨b2, rfl, hl5, hb5, hx4⟩
      refine WL_su (su_storea ti33 rfl hb5 rfl rfl (Nat.le_of_ble_eq_true rfl) rfl) rfl rfl ?_
      rintro w5 ⟨hnb, hf6⟩
      have hx7 : Ext w1 w5 := hx4.trans_new hf6 (fun _ h => by subst h; exact hl5)
      clear hb5
      have hb5 : Blk _ _ _ [_, _, _, _, _] := hnb
      clear hnb
      replace hx := hx.ext hx7
      replace hps := hps.ext hx7
      replace hown := hown.ext hx7
      replace hpr := hpr.ext hx7
      replace hpw := hpw.ext hx7
      replace hPs := PartsAll.fro hx7 (fun _ _ f => f) _ _ hPs
      refine WL_nil ?_
      refine W_seq ?_
      refine W_region ?_
      refine WL_val rfl rfl rfl (st_mv (v := .slice _ _ _) rfl) ?_
      refine WL_val rfl rfl rfl (st_len Tryd.underlying22 rfl) ?_
      refine WL_val rfl rfl rfl (st_as (v := .int _ _) rfl) ?_
      refine WL_nil ?_
      refine W_seq ?_
      refine W_region ?_
      refine WL_val rfl rfl rfl (st_mv (v := .int _ _) rfl) ?_
      refine WL_val rfl rfl rfl (st_gtr rfl rfl) ?_
      refine WL_val rfl rfl rfl (st_mv (v := .bool _) rfl) ?_
      refine WL_split 17 rfl (fun h17 => ?_) (fun h17 => ?_)
      · have g17 := of_decide_eq_true h17
        refine WL_valg rfl rfl rfl (congrArg Value.bool h17) rfl rfl (st_fieldAddr (off := 0) Tryd.underlying33 rfl rfl ti3 rfl) ?_
        refine WL_valg rfl rfl rfl (congrArg Value.bool h17) rfl rfl (st_load ⟨_, Tryd.underlying3, rfl⟩ rfl (hb5.cell 0 rfl)) ?_
        refine WL_valg rfl rfl rfl (congrArg Value.bool h17) rfl rfl (st_eql rfl rfl) ?_
        refine WL_val rfl rfl rfl (st_pk_t (v := .bool _) (congrArg Value.bool h17) rfl) ?_
        refine WL_val rfl rfl rfl (st_mv (v := .bool _) rfl) ?_
        refine WL_split 22 rfl (fun h22 => ?_) (fun h22 => ?_)
        · have g22 : p.kind = 1 := of_decide_eq_true h22
          have g17 : (0 : Int) < (out.length : Int) := of_decide_eq_true h17
          obtain ⟨or, q, hoq⟩ : ∃ or q, out = or ++ [q] := by
            rcases List.eq_nil_or_concat out with h | ⟨o, q, h⟩
            · exfalso; rw [h] at h17; simp at h17
            · exact ⟨o, q, by rw [h, List.concat_eq_append]⟩
          have hol2 : out.length = or.length + 1 := by rw [hoq, List.length_append, List.length_singleton]
          obtain ⟨rfl, _, hcells⟩ := hown.cells (by omega)
          obtain ⟨cr, cq, hcs, hPr, hPq⟩ := PartsAll.last hoq hPs
          obtain ⟨rvq, wvq, hcq, hrq, hwq⟩ := PartAt_iff.1 hPq
          have hcl2 : cr.length = or.length := (hPr.cells).1
          have hcc : Cells _ g (0 + or.length * 5) cq := fun i v hv => by
            have := hcells _ v (flat_at css or.length cq hc5 (by rw [hcs, List.getElem?_append_right (by omega), hcl2]; simp) i v hv)
            rw [← Nat.add_assoc] at this
            exact this
          refine WL_valg rfl rfl rfl (congrArg Value.bool h22) rfl rfl (st_mv (v := .slice _ _ _) rfl) ?_
          refine WL_valg rfl rfl rfl (congrArg Value.bool h22) rfl rfl (st_mv (v := .int _ _) rfl) ?_
          refine WL_valg rfl rfl rfl (congrArg Value.bool h22) rfl rfl (st_sub rfl rfl (by omega) (by omega)) ?_
          refine WL_valg rfl rfl rfl (congrArg Value.bool h22) rfl rfl (st_indexAddr (o := 0) (i := or.length) Tryd.underlying22 ti33 rfl rfl (by exact vint (by omega)) (by omega)) ?_
          refine WL_valg rfl rfl rfl (congrArg Value.bool h22) rfl rfl (st_fieldAddr (off := 0) Tryd.underlying33 rfl rfl ti3 rfl) ?_
          refine WL_valg rfl rfl rfl (congrArg Value.bool h22) rfl rfl (st_load ⟨_, Tryd.underlying3, rfl⟩ rfl (hcc 0 (.int .i64 q.kind) (by rw [hcq]; rfl))) ?_
          refine WL_valg rfl rfl rfl (congrArg Value.bool h22) rfl rfl (st_eql rfl rfl) ?_
          refine WL_val rfl rfl rfl (st_pk_t (v := .bool _) (congrArg Value.bool h22) rfl) ?_
          refine WL_nil ?_
          refine W_cond rfl (fun h30 => ?_) (fun h30 => ?_)
          · have g30 := of_decide_eq_true h30
            refine W_tailx 11 mixed (by kernel_rfl) ?_
            intro w8 hx9 hh10
            replace hx := hx.ext hx9
            replace hps := hps.ext hx9
            replace hown := hown.ext hx9
            replace hpr := hpr.ext hx9
            replace hpw := hpw.ext hx9
            replace hb5 := hb5.ext hx9
            replace hcc := hcc.ext hx9
            replace hrq := hrq.ext hx9
            replace hwq := hwq.ext hx9
            replace hPs := PartsAll.fro hx9 (fun _ _ f => f) _ _ hPs
            replace hPr := PartsAll.fro hx9 (fun _ _ f => f) _ _ hPr
            refine WS_val rfl rfl rfl (st_mv (v := .slice _ _ _) rfl) ?_
            refine WS_val rfl rfl rfl (st_mv (v := .int _ _) rfl) ?_
            refine WS_val rfl rfl rfl (st_sub rfl rfl (by omega) (by omega)) ?_
            refine WS_val rfl rfl rfl (st_indexAddr (o := 0) (i := or.length) Tryd.underlying22 ti33 rfl rfl (by exact vint (by omega)) (by omega)) ?_
            refine WS_val rfl rfl rfl (st_fieldAddr (off := 1) Tryd.underlying33 rfl rfl ti9 rfl) ?_
            refine WS_val rfl rfl rfl (st_load ⟨_, Tryd.underlying9, rfl⟩ rfl (hcc 1 (.string q.text) (by rw [hcq]; rfl))) ?_
            refine WS_val rfl rfl rfl (st_fieldAddr (off := 1) Tryd.underlying33 rfl rfl ti9 rfl) ?_
            refine WS_val rfl rfl rfl (st_load ⟨_, Tryd.underlying9, rfl⟩ rfl (hb5.cell 1 rfl)) ?_
            refine WS_val rfl rfl rfl (st_adds (a := q.text) (a' := p.text) rfl rfl (by have h1 := htx q (by rw [hoq]; simp); have h2 := nst_take_le ps (k + 1); have h3 := nst_take hk'; have h4 := ps[k].nst_eq; rw [← hp] at h3 h4; omega)) ?_
            refine WS_val rfl rfl rfl (st_indexAddr (o := 0) (i := or.length) Tryd.underlying22 ti33 rfl rfl (by exact vint (by omega)) (by omega)) ?_
            refine WS_val rfl rfl rfl (st_fieldAddr (off := 1) Tryd.underlying33 rfl rfl ti9 rfl) ?_
            refine WS_nil ?_
            obtain ⟨capj, junk, hvj, hbj, hlj, hcj⟩ := hown.2.resolve_left (fun h => by cases h.1)
            refine WL_su (su_store ti9 rfl hbj (by rw [List.length_append, flat_len (sz := 5) _ hc5, hcl]; omega) rfl rfl) rfl rfl ?_
            rintro w11 ⟨hnb, hf12⟩
            have hxS := Fro.trans_new hx hf12 (fun _ e => by subst e; exact hg)
            have hownS : Own w11 33 5 (.slice (some ⟨g, 0, none⟩) out.length c1) out.length (cr ++ [cq.set 1 (.string (q.text ++ p.text))]).flatten g := by
              refine ⟨?_, .inr ⟨capj, junk, hvj, ?_, ?_, hcj⟩⟩
              · rw [flat_len (sz := 5) _ (by intro x hx; rcases List.mem_append.1 hx with hx | hx; exact hc5 x (by rw [hcs]; exact List.mem_append_left _ hx); rw [List.mem_singleton] at hx; subst hx; rw [List.length_set]; exact hc5 cq (by rw [hcs]; simp)), List.length_append, List.length_singleton]; omega
              · have h9 := hnb
                rw [hcs, set_flat cr cq junk (by rw [flat_len (sz := 5) _ (fun x hx => hc5 x (by rw [hcs]; exact List.mem_append_left _ hx)), hcl2]) (by rw [hc5 cq (by rw [hcs]; simp)]; omega)] at h9
                exact h9
              · rw [← hlj, hcs]
                simp [List.length_flatten]
            have hPS : PartsAll D w11 (or ++ [.mk q.kind (q.text ++ p.text) q.neg q.ranges q.ways]) (cr ++ [cq.set 1 (.string (q.text ++ p.text))]) := by
              have hd : ∀ k, D k → ¬ k = g := fun k hk => by have := hD k hk; omega
              refine PartsAll.append (PartsAll.fro hf12 (fun k hk e => hd k hk e) _ _ hPr) (PartsAll.one (PartAt_iff.2 ⟨rvq, wvq, ?_, Arr.fro hrq hf12 (fun k hk e => hd k hk e), WaysAt.fro hwq hf12 (fun k hk e => hd k hk e)⟩))
              rw [hcq]
              rfl
            refine WL_nil ?_
            refine W_region ?_
            refine WL_val rfl rfl rfl (st_add rfl rfl (by omega) (by omega)) ?_
            refine WL_val rfl rfl rfl (st_mv (v := .int _ _) rfl) ?_
            refine WL_nil ?_
            refine rnd_end ?_ (m3 - 1) ?_ ?_
            · repeat (first | exact agree_in rfl rfl (agree_refl _ _) | exact agree_refl _ _ | refine agree_in rfl rfl ?_ | refine agree_upd rfl ?_)
            · omega
            · refine ⟨k + 1, _, _, g, or ++ [.mk q.kind (q.text ++ p.text) q.neg q.ranges q.ways], by omega, vec2 rfl rfl, ?_, ?_, hg, hPS, hxS, ?_⟩
              · rw [List.take_succ_eq_append_getElem hk', List.foldl_append, hout, ← hp, hoq]
                exact joinAdd_text (by omega) (by omega)
              · rw [List.length_append, List.length_singleton, ← hol2]; exact hownS
              · intro x hx
                have h7 := nst_take hk'
                have h8 := ps[k].nst_eq
                rw [← hp] at h8
                rcases List.mem_append.1 hx with hx | hx
                · have := htx x (by rw [hoq]; exact List.mem_append_left _ hx)
                  omega
                · rw [List.mem_singleton] at hx
                  subst hx
                  have := htx q (by rw [hoq]; simp)
                  show (q.text ++ p.text).size ≤ _
                  rw [ByteArray.size_append, h7, ← hp]
                  omega
          · have g30 := of_decide_eq_false h30
            refine W_region ?_
            refine WL_val rfl rfl rfl (st_mv (v := .slice _ _ _) rfl) ?_
            refine WL_val rfl rfl rfl (st_loada ⟨_, Tryd.underlying33, rfl⟩ ti33 rfl hb5.cells rfl) ?_
            refine WL_ef (ef_buildSlice (len := 1) (cs := [.int .i64 p.kind, .string p.text, .bool p.neg, .slice ra p.ranges.length rcp, .slice wa p.ways.length wcp]) Tryd.underlying22 ti33 (by decide) (by decide) rfl) rfl rfl rfl ?_
            rintro _ wD ⟨gn, rfl, hgn, hbn, hxD⟩
            replace hx := hx.ext hxD
            replace hown := hown.ext hxD
            replace hPs := PartsAll.fro hxD (fun _ _ f => f) _ _ hPs
            replace hpr := hpr.ext hxD
            replace hpw := hpw.ext hxD
            have hszD := hx.size
            refine WL_ef (ef_append (m := 1) (news := [.int .i64 p.kind, .string p.text, .bool p.neg, .slice ra p.ranges.length rcp, .slice wa p.ways.length wcp]) Tryd.underlying22 Tryd.underlying22 isSl_slice ti33 rfl rfl hown rfl (src_slice (by rfl) (.inr ⟨gn, 0, rfl, hbn.cells⟩) (fun h => by cases h)) rfl rfl (by omega) (by omega)) rfl rfl rfl ?_
            rintro vE wE ⟨gE, hownE, hfE, hgE, _⟩
            obtain ⟨aE, cE, rfl, hpE⟩ := hownE.form
            have hxE := Fro.trans_new hx hfE (fun _ e => by subst e; exact hg)
            have hPE : PartsAll D wE (out ++ [p]) (css ++ [[.int .i64 p.kind, .string p.text, .bool p.neg, .slice ra p.ranges.length rcp, .slice wa p.ways.length wcp]]) := PartsAll.fro hfE (fun k hk e => by have h1 := hD k hk; have e' : k = g := e; omega) _ _ (hPs.append (PartsAll.one (PartAt_iff.2 ⟨_, _, rfl, hpr, hpw⟩)))
            refine WL_val rfl rfl rfl (st_as (v := .slice _ _ _) rfl) ?_
            refine WL_nil ?_
            refine W_region ?_
            refine WL_val rfl rfl rfl (st_add rfl rfl (by omega) (by omega)) ?_
            refine WL_val rfl rfl rfl (st_mv (v := .int _ _) rfl) ?_
            refine WL_nil ?_
            refine rnd_end ?_ (m3 - 1) ?_ ?_
            · repeat (first | exact agree_in rfl rfl (agree_refl _ _) | exact agree_refl _ _ | refine agree_in rfl rfl ?_ | refine agree_upd rfl ?_)
            · omega
            · refine ⟨k + 1, .slice aE (out.length + 1) cE, _, gE, out ++ [p], by omega, vec2 rfl rfl, ?_, ?_, by rcases hgE with e | e <;> omega, hPE, hxE, ?_⟩
              · rw [List.take_succ_eq_append_getElem hk', List.foldl_append, hout, ← hp]
                exact joinAdd_other (fun q2 hq h1 h2 => by
                  have e : q2 = q := by rw [hoq, List.getLast?_append] at hq; simp at hq; exact hq.symm
                  subst e
                  omega)
              · rw [List.length_append, List.length_singleton, List.flatten_append]
                simpa using hownE
              · intro x hx
                have h7 := nst_take hk'
                have h8 := ps[k].nst_eq
                rw [← hp] at h8
                rcases List.mem_append.1 hx with hx | hx
                · have := htx x hx
                  omega
                · rw [List.mem_singleton] at hx
                  subst hx
                  rw [h7, ← hp]
                  omega
        · have g22 := of_decide_eq_false h22
          refine WL_pass rfl rfl rfl (congrArg Value.bool h22) rfl rfl ?_
          refine WL_pass rfl rfl rfl (congrArg Value.bool h22) rfl rfl ?_
          refine WL_pass rfl rfl rfl (congrArg Value.bool h22) rfl rfl ?_
          refine WL_pass rfl rfl rfl (congrArg Value.bool h22) rfl rfl ?_
          refine WL_pass rfl rfl rfl (congrArg Value.bool h22) rfl rfl ?_
          refine WL_pass rfl rfl rfl (congrArg Value.bool h22) rfl rfl ?_
          refine WL_pass rfl rfl rfl (congrArg Value.bool h22) rfl rfl ?_
          refine WL_val rfl rfl rfl (st_pk_f (v := (.bool false)) (congrArg Value.bool h22) rfl) ?_
          refine WL_nil ?_
          refine W_no rfl ?_
          refine W_region ?_
          refine WL_val rfl rfl rfl (st_mv (v := .slice _ _ _) rfl) ?_
          refine WL_val rfl rfl rfl (st_loada ⟨_, Tryd.underlying33, rfl⟩ ti33 rfl hb5.cells rfl) ?_
          refine WL_ef (ef_buildSlice (len := 1) (cs := [.int .i64 p.kind, .string p.text, .bool p.neg, .slice ra p.ranges.length rcp, .slice wa p.ways.length wcp]) Tryd.underlying22 ti33 (by decide) (by decide) rfl) rfl rfl rfl ?_
          rintro _ wD ⟨gn, rfl, hgn, hbn, hxD⟩
          replace hx := hx.ext hxD
          replace hown := hown.ext hxD
          replace hPs := PartsAll.fro hxD (fun _ _ f => f) _ _ hPs
          replace hpr := hpr.ext hxD
          replace hpw := hpw.ext hxD
          have hszD := hx.size
          refine WL_ef (ef_append (m := 1) (news := [.int .i64 p.kind, .string p.text, .bool p.neg, .slice ra p.ranges.length rcp, .slice wa p.ways.length wcp]) Tryd.underlying22 Tryd.underlying22 isSl_slice ti33 rfl rfl hown rfl (src_slice (by rfl) (.inr ⟨gn, 0, rfl, hbn.cells⟩) (fun h => by cases h)) rfl rfl (by omega) (by omega)) rfl rfl rfl ?_
          rintro vE wE ⟨gE, hownE, hfE, hgE, _⟩
          obtain ⟨aE, cE, rfl, hpE⟩ := hownE.form
          have hxE := Fro.trans_new hx hfE (fun _ e => by subst e; exact hg)
          have hPE : PartsAll D wE (out ++ [p]) (css ++ [[.int .i64 p.kind, .string p.text, .bool p.neg, .slice ra p.ranges.length rcp, .slice wa p.ways.length wcp]]) := PartsAll.fro hfE (fun k hk e => by have h1 := hD k hk; have e' : k = g := e; omega) _ _ (hPs.append (PartsAll.one (PartAt_iff.2 ⟨_, _, rfl, hpr, hpw⟩)))
          refine WL_val rfl rfl rfl (st_as (v := .slice _ _ _) rfl) ?_
          refine WL_nil ?_
          refine W_region ?_
          refine WL_val rfl rfl rfl (st_add rfl rfl (by omega) (by omega)) ?_
          refine WL_val rfl rfl rfl (st_mv (v := .int _ _) rfl) ?_
          refine WL_nil ?_
          refine rnd_end ?_ (m3 - 1) ?_ ?_
          · repeat (first | exact agree_in rfl rfl (agree_refl _ _) | exact agree_refl _ _ | refine agree_in rfl rfl ?_ | refine agree_upd rfl ?_)
          · omega
          · refine ⟨k + 1, .slice aE (out.length + 1) cE, _, gE, out ++ [p], by omega, vec2 rfl rfl, ?_, ?_, by rcases hgE with e | e <;> omega, hPE, hxE, ?_⟩
            · rw [List.take_succ_eq_append_getElem hk', List.foldl_append, hout, ← hp]
              exact joinAdd_other (fun q hq h1 _ => by omega)
            · rw [List.length_append, List.length_singleton, List.flatten_append]
              simpa using hownE
            · intro x hx
              have h7 := nst_take hk'
              have h8 := ps[k].nst_eq
              rw [← hp] at h8
              rcases List.mem_append.1 hx with hx | hx
              · have := htx x hx
                omega
              · rw [List.mem_singleton] at hx
                subst hx
                rw [h7, ← hp]
                omega
      · have g17 := of_decide_eq_false h17
        refine WL_pass rfl rfl rfl (congrArg Value.bool h17) rfl rfl ?_
        refine WL_pass rfl rfl rfl (congrArg Value.bool h17) rfl rfl ?_
        refine WL_pass rfl rfl rfl (congrArg Value.bool h17) rfl rfl ?_
        refine WL_val rfl rfl rfl (st_pk_f (v := (.bool false)) (congrArg Value.bool h17) rfl) ?_
        refine WL_val rfl rfl rfl (st_mv (v := .bool _) rfl) ?_
        refine WL_pass rfl rfl rfl rfl rfl rfl ?_
        refine WL_pass rfl rfl rfl rfl rfl rfl ?_
        refine WL_pass rfl rfl rfl rfl rfl rfl ?_
        refine WL_pass rfl rfl rfl rfl rfl rfl ?_
        refine WL_pass rfl rfl rfl rfl rfl rfl ?_
        refine WL_pass rfl rfl rfl rfl rfl rfl ?_
        refine WL_pass rfl rfl rfl rfl rfl rfl ?_
        refine WL_val rfl rfl rfl (st_pk_f (v := (.bool false)) rfl rfl) ?_
        refine WL_nil ?_
        refine W_no rfl ?_
        refine W_region ?_
        refine WL_val rfl rfl rfl (st_mv (v := .slice _ _ _) rfl) ?_
        refine WL_val rfl rfl rfl (st_loada ⟨_, Tryd.underlying33, rfl⟩ ti33 rfl hb5.cells rfl) ?_
        refine WL_ef (ef_buildSlice (len := 1) (cs := [.int .i64 p.kind, .string p.text, .bool p.neg, .slice ra p.ranges.length rcp, .slice wa p.ways.length wcp]) Tryd.underlying22 ti33 (by decide) (by decide) rfl) rfl rfl rfl ?_
        rintro _ wD ⟨gn, rfl, hgn, hbn, hxD⟩
        replace hx := hx.ext hxD
        replace hown := hown.ext hxD
        replace hPs := PartsAll.fro hxD (fun _ _ f => f) _ _ hPs
        replace hpr := hpr.ext hxD
        replace hpw := hpw.ext hxD
        have hszD := hx.size
        refine WL_ef (ef_append (m := 1) (news := [.int .i64 p.kind, .string p.text, .bool p.neg, .slice ra p.ranges.length rcp, .slice wa p.ways.length wcp]) Tryd.underlying22 Tryd.underlying22 isSl_slice ti33 rfl rfl hown rfl (src_slice (by rfl) (.inr ⟨gn, 0, rfl, hbn.cells⟩) (fun h => by cases h)) rfl rfl (by omega) (by omega)) rfl rfl rfl ?_
        rintro vE wE ⟨gE, hownE, hfE, hgE, _⟩
        obtain ⟨aE, cE, rfl, hpE⟩ := hownE.form
        have hxE := Fro.trans_new hx hfE (fun _ e => by subst e; exact hg)
        have hPE : PartsAll D wE (out ++ [p]) (css ++ [[.int .i64 p.kind, .string p.text, .bool p.neg, .slice ra p.ranges.length rcp, .slice wa p.ways.length wcp]]) := PartsAll.fro hfE (fun k hk e => by have h1 := hD k hk; have e' : k = g := e; omega) _ _ (hPs.append (PartsAll.one (PartAt_iff.2 ⟨_, _, rfl, hpr, hpw⟩)))
        refine WL_val rfl rfl rfl (st_as (v := .slice _ _ _) rfl) ?_
        refine WL_nil ?_
        refine W_region ?_
        refine WL_val rfl rfl rfl (st_add rfl rfl (by omega) (by omega)) ?_
        refine WL_val rfl rfl rfl (st_mv (v := .int _ _) rfl) ?_
        refine WL_nil ?_
        refine rnd_end ?_ (m3 - 1) ?_ ?_
        · repeat (first | exact agree_in rfl rfl (agree_refl _ _) | exact agree_refl _ _ | refine agree_in rfl rfl ?_ | refine agree_upd rfl ?_)
        · omega
        · refine ⟨k + 1, .slice aE (out.length + 1) cE, _, gE, out ++ [p], by omega, vec2 rfl rfl, ?_, ?_, by rcases hgE with e | e <;> omega, hPE, hxE, ?_⟩
          · rw [List.take_succ_eq_append_getElem hk', List.foldl_append, hout, ← hp]
            exact joinAdd_other (fun q hq => by
              exfalso
              have h0 : out.length = 0 := by omega
              rw [List.length_eq_zero_iff.1 h0] at hq
              cases hq)
          · rw [List.length_append, List.length_singleton, List.flatten_append]
            simpa using hownE
          · intro x hx
            have h7 := nst_take hk'
            have h8 := ps[k].nst_eq
            rw [← hp] at h8
            rcases List.mem_append.1 hx with hx | hx
            · have := htx x hx
              omega
            · rw [List.mem_singleton] at hx
              subst hx
              rw [h7, ← hp]
              omega
    · have g10 := of_decide_eq_false h10
      refine W_exit ?_
      refine W_seq ?_
      refine W_region ?_
      refine WL_val rfl rfl rfl (st_mv (v := .slice _ _ _) rfl) ?_
      refine WL_val rfl rfl rfl (st_as (v := .slice _ _ _) rfl) ?_
      refine WL_nil ?_
      refine W_ret ?_
      refine qr1 ?_
      have htk : ps.take k = ps := List.take_of_length_le (by omega)
      rw [htk] at hout
      have hol3 := hps.form
      refine ⟨hx, ?_⟩
      rw [show joinL ps = out from hout]
      refine ⟨css, ?_, PartsAll.mono (fun j hj => .inl hj) _ _ hPs⟩
      rcases Nat.eq_zero_or_pos out.length with h0 | h0
      · exact ⟨a1, c1, (by show Value.slice a1 out.length c1 = _; rw [hcl]), by omega, .inl (List.length_eq_zero_iff.1 (by omega))⟩
      · exact own_arr hown hc5 hcl (.inr ⟨hg, (hp1 h0).2⟩) (by omega)
mutual
theorem checkL_kinds : ∀ (l : List Part) (prev : Bool), checkL prev l = 0 → kindsL l
  | [], _, _ => by rw [kindsL]; trivial
  | .mk k t n rs ws :: l, prev, h => by
    have hok := checkL_okq _ _ h (.mk k t n rs ws) List.mem_cons_self
    rw [kindsL]
    refine ⟨?_, ?_⟩
    · rw [Part.kinds]
      refine ⟨?_, checkW_kinds ws ?_⟩
      · have h1 : ¬ (k < 1 ∨ 6 < k) := hok.1
        omega
      · exact hok.2.2
    · rw [checkL_cons] at h
      split at h
      · cases h
      split at h
      · cases h
      split at h
      · cases h
      split at h
      · rename_i h2; exact absurd h h2
      split at h
      · rename_i h3; exact absurd h h3
      · exact checkL_kinds l _ h
theorem checkW_kinds : ∀ (l : List (List Part)), checkW l = 0 → kindsW l
  | [], _ => by rw [kindsW]; trivial
  | x :: l, h => by
    rw [kindsW]
    rw [checkW_cons] at h
    split at h
    · rename_i h2; exact absurd h h2
    · rename_i h2
      exact ⟨checkL_kinds x false (Decidable.not_not.1 h2), checkW_kinds l h⟩
end
theorem checkG_kinds {rt dr : Bool} {ps : List Part} (h : checkG ⟨rt, dr, ps⟩ = 0) : kindsL ps := by
  unfold checkG at h
  dsimp only at h
  split at h
  · cases h
  split at h
  · rename_i h2; exact absurd h h2
  · rename_i h2
    exact checkL_kinds ps false (Decidable.not_not.1 h2)
theorem Below_ok (rt dr : Bool) (ps : List Part) (n : Nat) (v : Value) (t : ByteArray) (m0 : Int) (w : World) (hm : w.cell? ⟨0, 0, none⟩ = some (.int .i64 m0)) (hn : n ≤ w.heap.size) (hps : PartsAt (· < n) w v ps) (hc : cntP ps ≤ 4611686018427387904) (hl : (printL false ps).length ≤ 1000000000) (htx : ∀ p ∈ ps, p.text.size ≤ 1099511627776) (hts : t.size ≤ 1099511627) (hnst : nstL ps ≤ 400000000) :
    Fun Tryd.prog 10 [.agg #[.bool rt, .bool dr, v], .string t] w (fun r w' => ∃ b e, r = .tuple #[.bool b, .int .i64 e] ∧
      ((checkG ⟨rt, dr, ps⟩ ≠ 0 ∧ b = false ∧ e = checkG ⟨rt, dr, ps⟩) ∨ (checkG ⟨rt, dr, ps⟩ = 0 ∧ checkPath t ≠ 0 ∧ b = false ∧ e = checkPath t) ∨ (checkG ⟨rt, dr, ps⟩ = 0 ∧ checkPath t = 0 ∧ e = 0 ∧ (b = true ↔ BelL rt dr (LP ps) (byts t)))) ∧ Ext w w') := by
  obtain ⟨a, cp, rfl, hpl⟩ := hps.form
  have hx0 := Ext.refl w
  refine fun2 Tryd.func10 rfl (by kernel_rfl) rfl rfl rfl ?_
  refine W_seq ?_
  refine W_region ?_
  refine WL_ef (ef_box (cs := [_, _, _]) rfl) rfl rfl rfl ?_
  rintro _ w2 ⟨b1, rfl, hl2, hb2, hx3⟩
  replace hx0 := hx0.ext hx3
  replace hps := hps.ext hx3
  refine WL_val rfl rfl rfl (st_as (v := (.bool false)) rfl) ?_
  refine WL_val rfl rfl rfl (st_as (v := (.int .i64 0)) rfl) ?_
  refine WL_nil ?_
  refine W_seq ?_
  refine W_seq ?_
  refine W_region ?_
  refine WL_val rfl rfl rfl (st_loada ⟨_, Tryd.underlying24, rfl⟩ ti24 rfl hb2.cells rfl) ?_
  refine WL_call rfl rfl rfl (CheckGlob_ok rt dr ps n _ _ (by have := hx0.size; omega) hps hc hl htx) (ent_go rfl) ?_
  rintro _ w4 ⟨rfl, hx5⟩
  replace hx0 := hx0.ext hx5
  replace hps := hps.ext hx5
  replace hb2 := hb2.ext hx5
  refine WL_val rfl rfl rfl (st_as (v := .int _ _) rfl) ?_
  refine WL_nil ?_
  refine W_seq ?_
  refine W_region ?_
  refine WL_val rfl rfl rfl (st_mv (v := .int _ _) rfl) ?_
  refine WL_val rfl rfl rfl (st_neq rfl rfl) ?_
  refine WL_nil ?_
  refine W_cond rfl (fun h11 => ?_) (fun h11 => ?_)
  · have g11 := of_decide_eq_true h11
    refine W_seq ?_
    refine W_region ?_
    refine WL_val rfl rfl rfl (st_mv (v := .int _ _) rfl) ?_
    refine WL_val rfl rfl rfl (st_as (v := (.bool false)) rfl) ?_
    refine WL_val rfl rfl rfl (st_as (v := .int _ _) rfl) ?_
    refine WL_nil ?_
    refine W_ret ?_
    refine qr2 ?_
    exact ⟨false, _, rfl, .inl ⟨g11, rfl, rfl⟩, hx0⟩
  · have g11 := of_decide_eq_false h11
    refine W_skip ?_
    refine W_seq ?_
    refine W_seq ?_
    refine W_region ?_
    refine WL_val rfl rfl rfl (st_mv (v := .string _) rfl) ?_
    refine WL_call rfl rfl rfl (Check_ok t m0 _ (hx0.cell hm)) (ent_go rfl) ?_
    rintro _ w6 ⟨rfl, hx7⟩
    replace hx0 := hx0.ext hx7
    replace hps := hps.ext hx7
    replace hb2 := hb2.ext hx7
    refine WL_val rfl rfl rfl (st_as (v := .int _ _) rfl) ?_
    refine WL_nil ?_
    refine W_seq ?_
    refine W_region ?_
    refine WL_val rfl rfl rfl (st_mv (v := .int _ _) rfl) ?_
    refine WL_val rfl rfl rfl (st_neq rfl rfl) ?_
    refine WL_nil ?_
    refine W_cond rfl (fun h16 => ?_) (fun h16 => ?_)
    · have g16 := of_decide_eq_true h16
      refine W_seq ?_
      refine W_region ?_
      refine WL_val rfl rfl rfl (st_mv (v := .int _ _) rfl) ?_
      refine WL_val rfl rfl rfl (st_as (v := (.bool false)) rfl) ?_
      refine WL_val rfl rfl rfl (st_as (v := .int _ _) rfl) ?_
      refine WL_nil ?_
      refine W_ret ?_
      refine qr2 ?_
      exact ⟨false, _, rfl, .inr (.inl ⟨Decidable.not_not.1 g11, g16, rfl, rfl⟩), hx0⟩
    · have g16 := of_decide_eq_false h16
      refine W_skip ?_
      refine W_seq ?_
      refine W_region ?_
      refine WL_val rfl rfl rfl (st_loada ⟨_, Tryd.underlying24, rfl⟩ ti24 rfl hb2.cells rfl) ?_
      refine WL_val rfl rfl rfl (st_mv (v := .string _) rfl) ?_
      refine WL_call rfl rfl rfl (below_ok rt dr ps n _ t _ (by have := hx0.size; omega) hps hts (checkG_kinds (Decidable.not_not.1 g11)) hnst) (ent_go rfl) ?_
      rintro _ w8 ⟨b, rfl, hb, hx9⟩
      replace hx0 := hx0.ext hx9
      replace hps := hps.ext hx9
      replace hb2 := hb2.ext hx9
      refine WL_val rfl rfl rfl (st_as (v := .bool _) rfl) ?_
      refine WL_val rfl rfl rfl (st_as (v := (.int .i64 0)) rfl) ?_
      refine WL_nil ?_
      refine W_ret ?_
      refine qr2 ?_
      exact ⟨b, _, rfl, .inr (.inr ⟨Decidable.not_not.1 g11, Decidable.not_not.1 g16, rfl, hb⟩), hx0⟩
end Go.Proofs.YtndfhicdabdafaaDoor
