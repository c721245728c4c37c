/- Walks of Clone, wParts, wWays, wJoined, Below. -/
import Derived.Test.YtndfhicdabdafaaDoorW
import Derived.Test.YtndfhicdabdafaaDoorC19
namespace Go.Proofs.YtndfhicdabdafaaDoor
open Go Go.RowKit

theorem Clone_ok (n : Nat) (v : Value) (rs : List (Int × Int)) (w : World) (hr : RangesAt (· < n) w v rs) :
    Fun Tryd.prog 16 [v] w (fun r w' => Ext w w' ∧ RangesAt (fun k => w.heap.size ≤ k ∧ k < w'.heap.size) w' r rs) := by
  obtain ⟨a, cp, rfl, hlen, h⟩ := id hr
  refine fun1 Tryd.func16 rfl (by kernel_rfl) rfl rfl rfl ?_
  refine W_seq ?_
  refine W_region ?_
  refine WL_val rfl rfl rfl (st_as (v := (.slice none 0 0)) rfl) ?_
  refine WL_nil ?_
  refine W_seq ?_
  refine W_seq ?_
  refine W_region ?_
  refine WL_val rfl rfl rfl (st_mv (v := .slice _ _ _) rfl) ?_
  refine WL_val rfl rfl rfl (st_eqlsl Tryd.underlying30 rfl rfl) ?_
  refine WL_nil ?_
  refine W_cond rfl (fun h4 => ?_) (fun h4 => ?_)
  · have g4 := h4
    refine W_seq ?_
    refine W_region ?_
    refine WL_val rfl rfl rfl (st_as (v := (.slice none 0 0)) rfl) ?_
    refine WL_nil ?_
    refine W_ret ?_
    refine qr1 ?_
    have ha : a = none := Option.isNone_iff_eq_none.1 h4
    subst ha
    refine ⟨Ext.refl w, none, 0, ?_, by omega, .inl ?_⟩
    · rcases h with h | ⟨_, _, _, h, _⟩
      · rw [h]; rfl
      · cases h
    · rcases h with h | ⟨_, _, _, h, _⟩
      · exact h
      · cases h
  · have g4 := h4
    refine W_skip ?_
    refine W_seq ?_
    refine W_region ?_
    refine WL_ef (ef_buildSlice0 Tryd.underlying30 ti44) rfl rfl rfl ?_
    rintro _ wq2 ⟨gn, rfl, hgn, hbn, hx2⟩
    refine WL_val rfl rfl rfl (st_mv (v := .slice _ _ _) rfl) ?_
    refine WL_ef (ef_append (news := (rs.map fun p => [Value.int .i64 p.1, .int .i64 p.2]).flatten) (m := (rs.map fun p => [Value.int .i64 p.1, .int .i64 p.2]).length) Tryd.underlying30 Tryd.underlying30 isSl_slice ti44 rfl rfl (xs := []) (gb := gn) ⟨rfl, .inr ⟨0, [], rfl, hbn, rfl, Nat.le_refl _⟩⟩ rfl (arr_src (hr.ext hx2) (ranges_len rs)) (flat_len _ (ranges_len rs)) (all_flat (ranges_one rs)) (by omega) (by omega)) rfl rfl rfl ?_
    rintro v3 wq3 ⟨g3, hown, hf3, hg3, _⟩
    obtain ⟨a3, c3, rfl, hp3⟩ := hown.form
    refine WL_val rfl rfl rfl (st_as (v := .slice _ _ _) rfl) ?_
    refine WL_nil ?_
    refine W_ret ?_
    refine qr1 ?_
    have hx3 : Ext w wq3 := Fro.trans_new hx2 hf3 (fun _ e => by subst e; exact hgn)
    have hsz := hf3.size
    have hsz2 := hx2.size
    rcases Nat.eq_zero_or_pos (rs.map fun p => [Value.int .i64 p.1, .int .i64 p.2]).length with h0 | h0
    · refine ⟨hx3, a3, c3, (by show Value.slice a3 (0 + _) c3 = _; rw [Nat.zero_add]), by omega, .inl (List.length_eq_zero_iff.1 h0)⟩
    · have hgl := (hp3 (by omega)).2
      rw [List.nil_append] at hown
      exact ⟨hx3, own_arr hown (ranges_len rs) (by omega) ⟨by have := hbn.lt; rcases hg3 with e | e <;> omega, hgl⟩ (by omega)⟩
def WPartsOk (ps : List Part) : Prop := ∀ (n : Nat) (v : Value) (w : World), n ≤ w.heap.size → PartsAt (· < n) w v ps →
    Fun Tryd.prog 6 [v] w (fun r w' => Ext w w' ∧ POwn w.heap.size w' r ps)
set_option maxHeartbeats 1000000 in
theorem wParts_ok (M : Nat) : ∀ ps, cntP ps < M → WPartsOk ps := by
  induction M with
  | zero => intro ps h; omega
  | succ M ih =>
  intro ps hM
  unfold WPartsOk
  intro n v w hn hpsO
  obtain ⟨a, cp, rfl, hpl⟩ := hpsO.form
  have hps := hpsO
  refine fun1 Tryd.func6 rfl (by kernel_rfl) rfl rfl rfl ?_
  refine W_seq ?_
  refine W_region ?_
  refine WL_val rfl rfl rfl (st_as (v := (.slice none 0 0)) rfl) ?_
  refine WL_nil ?_
  refine W_seq ?_
  refine W_region ?_
  refine WL_val rfl rfl rfl (st_as (v := (.slice none 0 0)) rfl) ?_
  refine WL_nil ?_
  refine W_seq ?_
  refine W_seq ?_
  refine W_region ?_
  refine WL_val rfl rfl rfl (st_mv (v := .slice _ _ _) rfl) ?_
  refine WL_val rfl rfl rfl (st_len Tryd.underlying22 rfl) ?_
  refine WL_val rfl rfl rfl (st_mv (v := (.int .i64 0)) rfl) ?_
  refine WL_nil ?_
  refine W_block ?_
  refine W_loop [3, 11] [3, 5, 6, 8, 11, 12, 13, 14, 15, 16, 17, 18, 19, 20, 21, 22, 23, 24, 25, 26, 27, 28, 29, 30, 31, 32, 33, 34, 35, 36, 37, 38] (fun m' vs w1 => ∃ (k : Nat) (v1 : Value), k + m' = ps.length ∧ vs = [v1, .int .i64 (k : Int)] ∧ POwn w.heap.size w1 v1 (ps.take k) ∧ Ext w w1) ?_ ?_
  · exact ⟨ps.length, 0, _, by omega, rfl, POwn.nil, Ext.refl w⟩
  · intro m3 vs w1 u hI
    obtain ⟨k, v1, hk, rfl, hP, hx⟩ := hI
    replace hps := hpsO.ext hx
    obtain ⟨a1, c1, rfl⟩ := hP.len
    have hsz1 := hx.size
    have hy := Ext.refl w1
    refine W_seq ?_
    refine W_region ?_
    refine WL_val rfl rfl rfl (st_lss rfl rfl) ?_
    refine WL_nil ?_
    refine W_seq ?_
    refine W_cond rfl (fun h12 => ?_) (fun h12 => ?_)
    · have g12 := of_decide_eq_true h12
      refine W_skip ?_
      refine W_seq ?_
      refine W_block ?_
      refine W_seq ?_
      have hk' : k < ps.length := by omega
      obtain ⟨pb, po, rv, wv, hpD, hpa, hpc, hpr, hpw⟩ := hps.at hk'
      have hcnt : ps[k].cnt ≤ cntP ps := by have := cntP_drop ps k; rw [drop_at hk'] at this; simp only [cntP] at this; omega
      obtain ⟨p, hp⟩ : ∃ p, p = ps[k] := ⟨_, rfl⟩
      rw [← hp] at hpc hpr hpw hcnt
      obtain ⟨wa, wcp, rfl, hwlen⟩ := hpw.form
      obtain ⟨ra, rcp, rfl, hrlen⟩ := hpr.form
      have hPl : ∀ g l c, Value.slice a1 (ps.take k).length c1 = .slice (some ⟨g, 0, none⟩) l c → g < w1.heap.size := fun g l c h => by
        injection h with h
        subst h
        exact hP.blk
      refine W_region ?_
      refine WL_val rfl rfl rfl (st_indexAddr Tryd.underlying22 ti33 rfl hpa rfl (by omega)) ?_
      refine WL_val rfl rfl rfl (st_loada ⟨_, Tryd.underlying33, rfl⟩ ti33 rfl hpc rfl) ?_
      refine WL_ef (ef_alloc ti33) rfl rfl rfl ?_
      rintro _ w3 ⟨b2, rfl, hl5, hb5, hx4⟩
      refine WL_su (su_storea ti33 rfl hb5 rfl rfl (Nat.le_of_ble_eq_true rfl) rfl) rfl rfl ?_
      rintro w5 ⟨hnb, hf6⟩
      have hx7 : Ext w1 w5 := hx4.trans_new hf6 (fun _ h => by subst h; exact hl5)
      clear hb5
      have hb5 : Blk _ _ _ [_, _, _, _, _] := hnb
      clear hnb
      replace hy := hy.ext hx7
      replace hps := hps.ext hx7
      replace hpr := hpr.ext hx7
      replace hpw := hpw.ext hx7
      refine WL_nil ?_
      refine W_seq ?_
      have hszp := hy.size
      have hb5l0 := hl5
      have hb5w := hb5.lt
      refine W_region ?_
      refine WL_val rfl rfl rfl (st_fieldAddr (off := 3) Tryd.underlying33 rfl rfl ti30 rfl) ?_
      refine WL_val rfl rfl rfl (st_load ⟨_, Tryd.underlying30, rfl⟩ rfl (hb5.cell 3 rfl)) ?_
      refine WL_call rfl rfl rfl (Clone_ok n _ p.ranges _ hpr) (ent_go rfl) ?_
      rintro r5 w8 ⟨hx9, hR5⟩
      obtain ⟨ra2, rc2, rfl, _⟩ := hR5.form
      have hszq := Fro.size hx9
      replace hy := hy.ext hx9
      replace hps := hps.ext hx9
      replace hpr := hpr.ext hx9
      replace hpw := hpw.ext hx9
      replace hb5 := hb5.ext hx9
      refine WL_val rfl rfl rfl (st_fieldAddr (off := 3) Tryd.underlying33 rfl rfl ti30 rfl) ?_
      refine WL_su (su_store ti30 rfl hb5 (Nat.le_of_ble_eq_true rfl) rfl rfl) rfl rfl ?_
      rintro w10 ⟨hnb, hf11⟩
      have hb5 : Blk w10 b2 33 [.int .i64 p.kind, .string p.text, .bool p.neg, .slice ra2 p.ranges.length rc2, .slice wa p.ways.length wcp] := hnb
      clear hnb
      replace hy := Fro.trans_new hy hf11 (fun _ e => by subst e; omega)
      replace hpw := hpw.fro hf11 (fun k hk e => by have e' : k = b2 := e; omega)
      replace hR5 := Arr.fro hR5 hf11 (fun k hk e => by have e1 := hk.1; have e' : k = b2 := e; omega)
      have hsz5 := hy.size
      have hszhf11 := Fro.size hf11
      refine WL_nil ?_
      refine W_seq ?_
      have hz := Ext.refl w10
      have hb5l := hb5.lt
      refine W_region ?_
      refine WL_val rfl rfl rfl (st_as (v := (.slice none 0 0)) rfl) ?_
      refine WL_nil ?_
      refine W_seq ?_
      refine W_seq ?_
      refine W_region ?_
      refine WL_val rfl rfl rfl (st_fieldAddr (off := 4) Tryd.underlying33 rfl rfl ti31 rfl) ?_
      refine WL_val rfl rfl rfl (st_load ⟨_, Tryd.underlying31, rfl⟩ rfl (hb5.cell 4 rfl)) ?_
      refine WL_val rfl rfl rfl (st_len Tryd.underlying31 rfl) ?_
      refine WL_val rfl rfl rfl (st_mv (v := (.int .i64 0)) rfl) ?_
      refine WL_nil ?_
      refine W_block ?_
      refine W_loop [6, 22] [6, 8, 22, 23, 24, 25, 26, 27, 28, 29, 30, 31] (fun m' vs w2 => ∃ (jw : Nat) (v6 : Value), jw + m' = p.ways.length ∧ vs = [v6, .int .i64 (jw : Int)] ∧ WOwn w10.heap.size w2 v6 (p.ways.take jw) ∧ Ext w10 w2) ?_ ?_
      · exact ⟨p.ways.length, 0, _, by omega, rfl, WOwn.nil, hz⟩
      · intro m8 vs w12 u hI
        obtain ⟨jw, v6, hjw, rfl, hW, hz⟩ := hI
        obtain ⟨a6, c6, rfl⟩ := hW.len
        have hsz8 := hz.size
        replace hpw := hpw.ext hz
        refine W_seq ?_
        refine W_region ?_
        refine WL_val rfl rfl rfl (st_lss rfl rfl) ?_
        refine WL_nil ?_
        refine W_seq ?_
        refine W_cond rfl (fun h23 => ?_) (fun h23 => ?_)
        · have g23 := of_decide_eq_true h23
          refine W_skip ?_
          refine W_seq ?_
          refine W_block ?_
          refine W_seq ?_
          have hj' : jw < p.ways.length := by omega
          obtain ⟨wb, wo, wv, hwD, hwa, hwc, hwv⟩ := WaysAt.at hpw hj'
          have hle2 := cntW_drop p.ways jw
          rw [drop_at hj'] at hle2
          simp only [cntW] at hle2
          have hcq : cntP p.ways[jw] < M := by have := p.cnt_eq; omega
          obtain ⟨va, vcp, rfl, hvl⟩ := hwv.form
          have hWl : ∀ g l c, Value.slice a6 (p.ways.take jw).length c6 = .slice (some ⟨g, 0, none⟩) l c → g < w12.heap.size := fun g l c h => by
            injection h with h
            subst h
            exact hW.blk
          refine W_region ?_
          refine WL_val rfl rfl rfl (st_indexAddr Tryd.underlying31 ti22 rfl hwa rfl (by omega)) ?_
          refine WL_val rfl rfl rfl (st_load ⟨_, Tryd.underlying22, rfl⟩ rfl hwc) ?_
          refine WL_val rfl rfl rfl (st_as (v := .slice _ _ _) rfl) ?_
          refine WL_nil ?_
          refine W_region ?_
          refine WL_val rfl rfl rfl (st_mv (v := .slice _ _ _) rfl) ?_
          refine WL_val rfl rfl rfl (st_mv (v := .slice _ _ _) rfl) ?_
          refine WL_call rfl rfl rfl (ih _ hcq n _ _ (by omega) hwv) (ent_go rfl) ?_
          rintro r8 w13 ⟨hx14, hP8⟩
          obtain ⟨a8, c8, rfl⟩ := hP8.len
          have hszr := Fro.size hx14
          replace hz := hz.ext hx14
          replace hwv := hwv.ext hx14
          replace hW := hW.ext hx14
          refine WL_ef (ef_buildSlice (len := 1) (cs := [.slice a8 p.ways[jw].length c8]) Tryd.underlying31 ti22 (by decide) (by decide) rfl) rfl rfl rfl ?_
          rintro _ wB ⟨gn, rfl, hgn, hbn, hxB⟩
          replace hP8 := hP8.ext hxB
          replace hW := hW.ext hxB
          replace hz := hz.ext hxB
          have hszB := hxB.size
          obtain ⟨vs, g, hown, hg0, hWs, hgr⟩ := hW.prep (by have := hz.size; omega)
          have hwl : (p.ways.take jw).length = jw := by rw [List.length_take]; omega
          refine WL_ef (ef_append (m := 1) (news := [.slice a8 p.ways[jw].length c8]) Tryd.underlying31 Tryd.underlying31 isSl_slice ti22 rfl rfl hown rfl (src_slice (by rfl) (.inr ⟨gn, 0, rfl, hbn.cells⟩) (fun h => by cases h)) rfl rfl (by omega) (by omega)) rfl rfl rfl ?_
          rintro vC wC ⟨gC, hownC, hfC, hgC, _⟩
          have hPp := hP8.parts (by omega) (by omega)
          have hWn := WOwn.done (x := p.ways[jw]) (by have := hz.size; omega) hg0 hWs (hPp.mono (fun k hk => ⟨by omega, hk.2, fun e => by
            rcases hgr with h9 | ⟨⟨cap, h9⟩, h10⟩
            · omega
            · have h11 := hWl _ _ _ h9
              have h12 : g < w12.heap.size := h11
              omega⟩)) hownC hfC hgC
          obtain ⟨aC, cC, rfl⟩ := hWn.len
          have hzC := Fro.trans_new hz hfC (fun _ e => by subst e; exact hg0)
          refine WL_val rfl rfl rfl (st_as (v := .slice _ _ _) rfl) ?_
          refine WL_nil ?_
          refine W_region ?_
          refine WL_val rfl rfl rfl (st_add rfl rfl (by omega) (by omega)) ?_
          refine WL_val rfl rfl rfl (st_mv (v := .int _ _) rfl) ?_
          refine WL_nil ?_
          refine rnd_end ?_ (m8 - 1) ?_ ?_
          · repeat (first | exact agree_in rfl rfl (agree_refl _ _) | exact agree_refl _ _ | refine agree_in rfl rfl ?_ | refine agree_upd rfl ?_)
          · omega
          · exact ⟨jw + 1, .slice aC ((p.ways.take jw ++ [p.ways[jw]]).length) cC, by omega, vec2 rfl rfl, by rw [List.take_succ_eq_append_getElem hj']; exact hWn, hzC⟩
        · have g23 := of_decide_eq_false h23
          refine W_exit ?_
          refine W_seq ?_
          replace hb5 := hb5.ext hz
          replace hR5 := Arr.ext hR5 hz
          replace hy := hy.ext hz
          have htkw : p.ways.take jw = p.ways := List.take_of_length_le (by omega)
          rw [htkw] at hW
          have hWw := hW.ways (by omega)
          rw [htkw]
          have hszz := hz.size
          refine W_region ?_
          refine WL_val rfl rfl rfl (st_mv (v := .slice _ _ _) rfl) ?_
          refine WL_val rfl rfl rfl (st_fieldAddr (off := 4) Tryd.underlying33 rfl rfl ti31 rfl) ?_
          refine WL_su (su_store ti31 rfl hb5 (Nat.le_of_ble_eq_true rfl) rfl rfl) rfl rfl ?_
          rintro w15 ⟨hnb, hf16⟩
          have hb5 : Blk w15 b2 33 [.int .i64 p.kind, .string p.text, .bool p.neg, .slice ra2 p.ranges.length rc2, .slice a6 p.ways.length c6] := hnb
          clear hnb
          replace hy := Fro.trans_new hy hf16 (fun _ e => by subst e; omega)
          replace hR5 := Arr.fro hR5 hf16 (fun k hk e => by have e1 := hk.1; have e' : k = b2 := e; omega)
          have hW : WaysAt (fun k => w10.heap.size ≤ k ∧ k < w15.heap.size) w15 (.slice a6 p.ways.length c6) p.ways := WaysAt.mono (WaysAt.fro hWw hf16 (fun k hk e => by have e1 := hk.1; have e' : k = b2 := e; omega)) (fun k hk => ⟨hk.1, by have := hk.2; have := Fro.size hf16; omega⟩)
          have hsz12 := hy.size
          have hszHG := Fro.size hf16
          refine WL_nil ?_
          refine W_region ?_
          refine WL_val rfl rfl rfl (st_mv (v := .slice _ _ _) rfl) ?_
          refine WL_val rfl rfl rfl (st_loada ⟨_, Tryd.underlying33, rfl⟩ ti33 rfl hb5.cells rfl) ?_
          refine WL_ef (ef_buildSlice (len := 1) (cs := [.int .i64 p.kind, .string p.text, .bool p.neg, .slice ra2 p.ranges.length rc2, .slice a6 p.ways.length c6]) Tryd.underlying22 ti33 (by decide) (by decide) rfl) rfl rfl rfl ?_
          rintro _ wD ⟨gn, rfl, hgn, hbn, hxD⟩
          replace hy := hy.ext hxD
          replace hR5 := hR5.ext hxD
          replace hW := hW.ext hxD
          have hszD := hxD.size
          have hP2 := hP.ext hy
          obtain ⟨css, g, hown, hg0, hPs, hgr⟩ := hP2.prep (by omega)
          have hpl' : (ps.take k).length = k := by rw [List.length_take]; omega
          refine WL_ef (ef_append (m := 1) (news := [.int .i64 p.kind, .string p.text, .bool p.neg, .slice ra2 p.ranges.length rc2, .slice a6 p.ways.length c6]) Tryd.underlying22 Tryd.underlying22 isSl_slice ti33 rfl rfl hown rfl (src_slice (by rfl) (.inr ⟨gn, 0, rfl, hbn.cells⟩) (fun h => by cases h)) rfl rfl (by omega) (by omega)) rfl rfl rfl ?_
          rintro vE wE ⟨gE, hownE, hfE, hgE, _⟩
          have hgn2 : g < w1.heap.size ∨ g = wD.heap.size := by
            rcases hgr with h9 | ⟨⟨cap, h9⟩, h10⟩
            · exact .inr h9.2
            · exact .inl (hPl _ _ _ h9)
          have hnew : PartAt (fun k => w.heap.size ≤ k ∧ k < wD.heap.size ∧ k ≠ g) wD p [.int .i64 p.kind, .string p.text, .bool p.neg, .slice ra2 p.ranges.length rc2, .slice a6 p.ways.length c6] :=
            PartAt_iff.2 ⟨_, _, rfl, Arr.mono hR5 (fun k hk => by obtain ⟨h1, h2⟩ := hk; exact ⟨by omega, by omega, by omega⟩), hW.mono (fun k hk => by obtain ⟨h1, h2⟩ := hk; exact ⟨by omega, by omega, by omega⟩)⟩
          have hPn := POwn.done (qs := [p]) (ds := [[.int .i64 p.kind, .string p.text, .bool p.neg, .slice ra2 p.ranges.length rc2, .slice a6 p.ways.length c6]]) (by omega) rfl hg0 hPs (PartsAll.one hnew) (by simpa using hownE) hfE hgE
          obtain ⟨aE, cE, rfl⟩ := hPn.len
          have hyE := Fro.trans_new (hx.trans hy) hfE (fun _ e => by subst e; exact hg0)
          refine WL_val rfl rfl rfl (st_as (v := .slice _ _ _) rfl) ?_
          refine WL_nil ?_
          refine W_region ?_
          refine WL_val rfl rfl rfl (st_add rfl rfl (by omega) (by omega)) ?_
          refine WL_val rfl rfl rfl (st_mv (v := .int _ _) rfl) ?_
          refine WL_nil ?_
          refine rnd_end ?_ (m3 - 1) ?_ ?_
          · repeat (first | exact agree_in rfl rfl (agree_refl _ _) | exact agree_refl _ _ | refine agree_in rfl rfl ?_ | refine agree_upd rfl ?_)
          · omega
          · exact ⟨k + 1, .slice aE ((ps.take k ++ [p]).length) cE, by omega, vec2 rfl rfl, by rw [List.take_succ_eq_append_getElem hk', ← hp]; exact hPn, hyE⟩
    · have g12 := of_decide_eq_false h12
      refine W_exit ?_
      refine W_seq ?_
      refine W_region ?_
      refine WL_val rfl rfl rfl (st_mv (v := .slice _ _ _) rfl) ?_
      refine WL_val rfl rfl rfl (st_as (v := .slice _ _ _) rfl) ?_
      refine WL_nil ?_
      refine W_ret ?_
      refine qr1 ?_
      have htkp : ps.take k = ps := List.take_of_length_le (by omega)
      rw [htkp] at hP
      exact ⟨hx, by rw [htkp] at *; exact hP⟩
end Go.Proofs.YtndfhicdabdafaaDoor
