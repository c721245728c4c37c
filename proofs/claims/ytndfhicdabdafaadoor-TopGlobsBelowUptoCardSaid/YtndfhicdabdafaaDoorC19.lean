/- Walks of below and Below. -/
import Derived.Test.YtndfhicdabdafaaDoorC18
import Derived.Test.YtndfhicdabdafaaDoorC12
namespace Go.Proofs.YtndfhicdabdafaaDoor
open Go Go.RowKit

set_option maxHeartbeats 1000000 in
theorem below_ok (rt dr : Bool) (ps : List Part) (n : Nat) (v : Value) (t : ByteArray) (w : World) (hnw : n ≤ w.heap.size) (hps : PartsAt (· < n) w v ps) (hts : t.size ≤ 1099511627) (hk : kindsL ps) (hsz : nstL ps ≤ 400000000) :
    Fun Tryd.prog 18 [.agg #[.bool rt, .bool dr, v], .string t] w (fun r w' => ∃ b, r = .bool b ∧ (b = true ↔ BelL rt dr (LP ps) (byts t)) ∧ Ext w w') := by
  obtain ⟨a, cp, rfl, hpl⟩ := hps.form
  obtain ⟨l, hl0⟩ : ∃ l, l = ps.length := ⟨_, rfl⟩
  rw [← hl0] at hps
  rw [← hl0]
  have hx := Ext.refl w
  refine fun1 Tryd.func18 rfl (by kernel_rfl) rfl rfl rfl ?_
  refine W_seq ?_
  refine W_region ?_
  refine WL_ef (ef_box (cs := [_, _, _]) rfl) rfl rfl rfl ?_
  rintro _ w2 ⟨b1, rfl, hl2, hb2, hx3⟩
  replace hx := hx.ext hx3
  replace hps := hps.ext hx3
  refine WL_val rfl rfl rfl (st_as (v := (.bool false)) rfl) ?_
  refine WL_nil ?_
  refine W_seq ?_
  refine W_seq ?_
  refine W_region ?_
  refine WL_val rfl rfl rfl (st_fieldAddr (off := 1) Tryd.underlying24 rfl rfl ti4 rfl) ?_
  refine WL_val rfl rfl rfl (st_load ⟨_, Tryd.underlying4, rfl⟩ rfl (hb2.cell 1 rfl)) ?_
  refine WL_val rfl rfl rfl (st_mv (v := .bool _) rfl) ?_
  refine WL_split 13 rfl (fun h13 => ?_) (fun h13 => ?_)
  · have g13 := h13
    refine WL_valg rfl rfl rfl (congrArg Value.bool h13) rfl rfl (st_loada ⟨_, Tryd.underlying24, rfl⟩ ti24 rfl hb2.cells rfl) ?_
    refine WL_valg rfl rfl rfl (congrArg Value.bool h13) rfl rfl (st_mv (v := .string _) rfl) ?_
    refine WL_callg rfl rfl rfl (congrArg Value.bool h13) rfl rfl (fitsUp_ok rt dr ps n _ t true true _ (by have := hx.size; omega) hps hts) (ent_go rfl) ?_
    rintro _ w4 ⟨bq, rfl, hbq, hx5⟩
    replace hx := hx.ext hx5
    replace hps := hps.ext hx5
    replace hb2 := hb2.ext hx5
    refine WL_val rfl rfl rfl (st_pk_t (v := .bool _) (congrArg Value.bool h13) rfl) ?_
    refine WL_nil ?_
    refine W_cond rfl (fun h17 => ?_) (fun h17 => ?_)
    · have g17 := h17
      refine W_seq ?_
      refine W_region ?_
      refine WL_val rfl rfl rfl (st_as (v := (.bool true)) rfl) ?_
      refine WL_nil ?_
      refine W_ret ?_
      refine qr1 ?_
      exact ⟨true, rfl, ⟨fun _ => .inl ⟨h13, (FitS_iff _ _ _ _ _).1 (hbq.1 (by first | exact h17 | exact h16))⟩, fun _ => rfl⟩, hx⟩
    · have g17 := h17
      refine W_skip ?_
      refine W_seq ?_
      have hno : ¬ (dr = true ∧ FitL rt (LP ps) (byts t) true true) := fun h => by
        have h9 := hbq.2 ((FitS_iff _ _ _ _ _).2 h.2)
        first | (rw [h17] at h9; cases h9) | (rw [h16] at h9; cases h9)
      obtain ⟨base, hbase⟩ : ∃ b, b = w4.heap.size := ⟨_, rfl⟩
      have hwb : w.heap.size ≤ base := by have := hx.size; omega
      have hn : n ≤ base := by omega
      refine W_region ?_
      refine WL_val rfl rfl rfl (st_build (pl := [(0, 1)]) (cs := [.slice none 0 0]) ti64 Tryd.underlying64 (fun _ => by kernel_rfl) rfl) ?_
      refine WL_ef (ef_box (cs := [_]) rfl) rfl rfl rfl ?_
      rintro _ w7 ⟨b6, rfl, hl19, hb19, hx8⟩
      replace hx := hx.ext hx8
      replace hps := hps.ext hx8
      replace hb2 := hb2.ext hx8
      refine WL_val rfl rfl rfl (st_as (v := .pointer _) rfl) ?_
      refine WL_nil ?_
      refine W_seq ?_
      have hnb0 : base ≤ b6 := by rw [hbase]; exact hl19
      have hN : Net w7 n base b6 [] := ⟨fun _ => base, hnb0, .slice none 0 0, [], base, hb19, Own.nil _ _ _ _, Nat.le_refl _, fun i ars h => by simp at h, fun i j h => by simp at h, by simp⟩
      have hnbl := hb19.lt
      refine W_region ?_
      refine WL_val rfl rfl rfl (st_mv (v := .pointer _) rfl) ?_
      refine WL_call rfl rfl rfl (state_net n base b6 [] _ hN hn (by omega) (by simp)) (ent_go rfl) ?_
      rintro _ w9 ⟨rfl, hN1, hx10⟩
      replace hN := hN1; clear hN1
      have hsz1 := Fro.size hx10
      replace hN : Net _ n base b6 [[]] := hN
      replace hx := Fro.trans_new hx (NStep.low hx10 (Nat.le_refl base)) (fun k e => Nat.le_trans hwb e)
      replace hps := hps.nstep hx10 hn
      replace hb2 := hb2.nstep hx10 (by decide)
      refine WL_val rfl rfl rfl (st_as (v := .int _ _) rfl) ?_
      refine WL_nil ?_
      refine W_seq ?_
      refine W_region ?_
      refine WL_val rfl rfl rfl (st_mv (v := .pointer _) rfl) ?_
      refine WL_val rfl rfl rfl (st_fieldAddr (off := 2) Tryd.underlying24 rfl rfl ti22 rfl) ?_
      refine WL_val rfl rfl rfl (st_load ⟨_, Tryd.underlying22, rfl⟩ rfl (hb2.cell 2 rfl)) ?_
      refine WL_val rfl rfl rfl (st_mv (v := .int _ _) rfl) ?_
      refine WL_call rfl rfl rfl (list_ok _ ps (Nat.lt_succ_self _) n base b6 0 0 0 [[]] _ _ hN hn (by omega) (fun q a h => by cases q <;> cases h) (by simp) (by simp) (fun q => by cases q <;> simp [arws]) hk (by simp; omega) hps) (ent_go rfl) ?_
      rintro _ w11 ⟨to, N', rfl, hN1, hx12, hB, hF, hl⟩
      replace hN := hN1; clear hN1
      have hsz2 := Fro.size hx12
      have hpos : 0 < N'.length := by have := hB.len; simp at this; omega
      rw [List.length_singleton] at hl
      replace hx := Fro.trans_new hx (NStep.low hx12 (Nat.le_refl base)) (fun k e => Nat.le_trans hwb e)
      replace hps := hps.nstep hx12 hn
      replace hb2 := hb2.nstep hx12 (by decide)
      refine WL_val rfl rfl rfl (st_as (v := .int _ _) rfl) ?_
      refine WL_nil ?_
      refine W_seq ?_
      skip
      refine W_region ?_
      refine WL_ef (ef_makeMap mkI) rfl rfl rfl ?_
      rintro _ wM ⟨m, rfl, hm, hS, hxM⟩
      have hwm : w.heap.size ≤ m := by have := hx.size; omega
      have hnm : n ≤ m := by omega
      replace hx := hx.ext hxM
      replace hN := hN.ext hxM
      replace hb2 := hb2.ext hxM
      refine WL_val rfl rfl rfl (st_mv (v := .int _ _) rfl) ?_
      refine WL_su (su_insert keyS Tryd.underlying67 hS rfl rfl rfl) rfl rfl ?_
      rintro wI ⟨hSI, hfI⟩
      replace hx := Fro.trans_new hx hfI (fun _ e => by subst e; exact hwm)
      replace hN := hN.map hS hnm hfI
      replace hb2 := hb2.fro hfI (fun e => hb2.ne_set hS e)
      replace hS := hSI
      refine WL_val rfl rfl rfl (st_mv (v := .map _) rfl) ?_
      refine WL_val rfl rfl rfl (st_as (v := .map _) rfl) ?_
      refine WL_nil ?_
      refine W_seq ?_
      rw [if_neg (by simp)] at hS
      have hS0 := hS
      refine W_region ?_
      refine WL_val rfl rfl rfl (st_mv (v := .pointer _) rfl) ?_
      refine WL_val rfl rfl rfl (st_mv (v := .map _) rfl) ?_
      refine WL_call rfl rfl rfl (closure_ok n base b6 _ N' _ _ hN hS hB.val (fun q hq => by simp at hq; omega) (by omega) hF) (ent_go rfl) ?_
      rintro _ w13 ⟨rfl, ks, hS2, hk2, hx14⟩
      replace hx := Fro.trans_new hx hx14 (fun _ e => by subst e; exact hwm)
      replace hN := hN.map hS hnm hx14
      replace hb2 := hb2.fro hx14 (fun e => hb2.ne_set hS0 e)
      replace hS := hS2
      refine WL_nil ?_
      refine W_seq ?_
      refine W_seq ?_
      have hks : ∀ q, q ∈ ks ↔ Sts N' rt 0 [] q := fun q => by
        rw [hk2 q, Sts.nil]
        simp
      have hlt : ∀ q ∈ ks, q < N'.length := fun q hq => by
        obtain ⟨s, h1, h2⟩ := (hk2 q).1 hq
        exact h2.lt hB.val (by simp at h1; omega)
      clear hk2
      refine W_region ?_
      refine WL_val rfl rfl rfl (st_mv (v := .string _) rfl) ?_
      refine WL_val rfl rfl rfl (st_neqs rfl rfl) ?_
      refine WL_nil ?_
      refine W_cond rfl (fun h34 => ?_) (fun h34 => ?_)
      · have g34 := of_decide_eq_false (not_t h34)
        refine W_seq ?_
        refine W_region ?_
        refine WL_val rfl rfl rfl (st_mv (v := .string _) rfl) ?_
        refine WL_val rfl rfl rfl (st_lens Tryd.underlying9 rfl) ?_
        refine WL_val rfl rfl rfl (st_add rfl rfl (by omega) (by omega)) ?_
        refine WL_val rfl rfl rfl (st_mv (v := (.int .i64 0)) rfl) ?_
        refine WL_nil ?_
        refine W_block ?_
        refine W_loop [8, 38] [8, 9, 10, 38, 39, 40, 41, 42, 43, 44, 45, 46, 47, 48, 49, 50, 51, 52, 53, 54, 55, 56, 57, 58, 59, 60, 61, 62, 63, 64] (fun m' vs w1 => ∃ (i m : Nat) (ks : List Nat), i + m' = t.size + 1 ∧ vs = [.map (some m), .int .i64 (i : Int)] ∧ SetAt w1 m mkI ks ∧ n ≤ m ∧ w.heap.size ≤ m ∧ (∀ q, q ∈ ks ↔ Sts N' rt 0 ((byts t ++ [47]).take i) q) ∧ Net w1 n base b6 N' ∧ Ext w w1 ∧ (∀ q ∈ ks, q < N'.length) ∧ Blk w1 b1 24 [.bool rt, .bool dr, .slice a l cp]) ?_ ?_
        · exact ⟨t.size + 1, 0, m, ks, by omega, rfl, hS, hnm, hwm, hks, hN, hx, hlt, hb2⟩
        · intro m9 vs w15 u hI
          obtain ⟨i, m, ks, hi, rfl, hS, hnm, hwm, hks, hN, hx, hlt, hb2⟩ := hI
          have hszL := hx.size
          have hNlt := hN.lt
          refine W_seq ?_
          refine W_region ?_
          refine WL_val rfl rfl rfl (st_lss rfl rfl) ?_
          refine WL_nil ?_
          refine W_seq ?_
          refine W_cond rfl (fun h39 => ?_) (fun h39 => ?_)
          · have g39 := of_decide_eq_true h39
            refine W_skip ?_
            refine W_seq ?_
            refine W_block ?_
            refine W_seq ?_
            refine W_region ?_
            refine WL_val rfl rfl rfl (st_mv (v := .int _ _) rfl) ?_
            refine WL_val rfl rfl rfl (st_as (v := .int _ _) rfl) ?_
            refine WL_nil ?_
            refine W_seq ?_
            refine W_region ?_
            refine WL_val rfl rfl rfl (st_as (v := (.int .u8 47)) rfl) ?_
            refine WL_nil ?_
            refine W_seq ?_
            refine W_seq ?_
            refine W_region ?_
            refine WL_val rfl rfl rfl (st_mv (v := .int _ _) rfl) ?_
            refine WL_val rfl rfl rfl (st_mv (v := .string _) rfl) ?_
            refine WL_val rfl rfl rfl (st_lens Tryd.underlying9 rfl) ?_
            refine WL_val rfl rfl rfl (st_lss rfl rfl) ?_
            refine WL_nil ?_
            refine W_cond rfl (fun h44 => ?_) (fun h44 => ?_)
            · have g44 := of_decide_eq_true h44
              refine W_region ?_
              refine WL_val rfl rfl rfl (st_mv (v := .string _) rfl) ?_
              refine WL_val rfl rfl rfl (st_mv (v := .int _ _) rfl) ?_
              refine WL_val rfl rfl rfl (st_index (s := t) (i := i) Tryd.underlying9 rfl rfl (by omega)) ?_
              refine WL_val rfl rfl rfl (st_as (v := .int _ _) rfl) ?_
              refine WL_nil ?_
              refine W_seq ?_
              have htk : (byts t ++ [47]).take (i + 1) = (byts t ++ [47]).take i ++ [t[i]'(by omega)] := by
                have hi : i < (byts t).length := by rw [byts_length]; omega
                rw [List.take_succ_eq_append_getElem (by rw [List.length_append, List.length_singleton]; omega), List.getElem_append_left hi]
                rfl
              refine W_region ?_
              refine WL_val rfl rfl rfl (st_mv (v := .pointer _) rfl) ?_
              refine WL_val rfl rfl rfl (st_mv (v := .map _) rfl) ?_
              refine WL_val rfl rfl rfl (st_mv (v := .int _ _) rfl) ?_
              refine WL_call rfl rfl rfl (step_ok n base b6 m N' ks (t[i]'(by omega)) _ hN hS hn (by omega) hB.val hlt (by omega) hF) (ent_go rfl) ?_
              rintro _ w16 ⟨m2, ks2, rfl, hm2, hS2, hk2, hlt2, hx17⟩
              have hwm2 : w.heap.size ≤ m2 := by have := hx.size; omega
              replace hx := hx.ext hx17
              replace hN := hN.ext hx17
              clear hS
              have hS := hS2
              clear hS2
              replace hb2 := hb2.ext hx17
              refine WL_val rfl rfl rfl (st_as (v := .map _) rfl) ?_
              refine WL_nil ?_
              refine W_seq ?_
              refine W_region ?_
              refine WL_val rfl rfl rfl (st_mv (v := .int _ _) rfl) ?_
              refine WL_val rfl rfl rfl (st_eql rfl rfl) ?_
              refine WL_val rfl rfl rfl (st_mv (v := .bool _) rfl) ?_
              refine WL_split 54 rfl (fun h54 => ?_) (fun h54 => ?_)
              · have g54 := of_decide_eq_true h54
                refine WL_valg rfl rfl rfl (congrArg Value.bool h54) rfl rfl (st_fieldAddr (off := 0) Tryd.underlying24 rfl rfl ti4 rfl) ?_
                refine WL_valg rfl rfl rfl (congrArg Value.bool h54) rfl rfl (st_load ⟨_, Tryd.underlying4, rfl⟩ rfl (hb2.cell 0 rfl)) ?_
                refine WL_valg rfl rfl rfl (congrArg Value.bool h54) rfl rfl (st_not rfl) ?_
                refine WL_val rfl rfl rfl (st_pk_t (v := .bool _) (congrArg Value.bool h54) rfl) ?_
                refine WL_nil ?_
                refine W_cond rfl (fun h58 => ?_) (fun h58 => ?_)
                · have g58 := h58
                  refine W_seq ?_
                  refine W_region ?_
                  refine WL_val rfl rfl rfl (st_mv (v := .map _) rfl) ?_
                  refine WL_val rfl rfl rfl (st_mv (v := .int _ _) rfl) ?_
                  have hnm := (by omega : n ≤ m2)
                  have hwm := hwm2
                  refine WL_su (su_mapUpdate keyS Tryd.underlying67 hS rfl rfl rfl) rfl rfl ?_
                  rintro wI2 ⟨hSI, hfI⟩
                  replace hx := Fro.trans_new hx hfI (fun _ e => by subst e; exact hwm)
                  replace hN := hN.map hS hnm hfI
                  replace hb2 := hb2.fro hfI (fun e => hb2.ne_set hS e)
                  replace hS := hSI
                  have hS0 := hS
                  refine WL_nil ?_
                  refine W_region ?_
                  refine WL_val rfl rfl rfl (st_mv (v := .pointer _) rfl) ?_
                  refine WL_val rfl rfl rfl (st_mv (v := .map _) rfl) ?_
                  refine WL_call rfl rfl rfl (closure_ok n base b6 _ N' _ _ hN hS hB.val (fun q hq => by rcases mem_add.1 hq with rfl | hq; exact hpos; exact hlt2 q hq) (by omega) hF) (ent_go rfl) ?_
                  rintro _ w18 ⟨rfl, ks, hS2, hkc, hx19⟩
                  replace hx := Fro.trans_new hx hx19 (fun _ e => by subst e; exact hwm)
                  replace hN := hN.map hS hnm hx19
                  replace hS := hS2
                  replace hb2 := hb2.fro hx19 (fun e => hb2.ne_set hS0 e)
                  refine WL_nil ?_
                  refine W_region ?_
                  refine WL_val rfl rfl rfl (st_add rfl rfl (by omega) (by omega)) ?_
                  refine WL_val rfl rfl rfl (st_mv (v := .int _ _) rfl) ?_
                  refine WL_nil ?_
                  refine rnd_end ?_ (m9 - 1) ?_ ?_
                  · repeat (first | exact agree_in rfl rfl (agree_refl _ _) | exact agree_refl _ _ | refine agree_in rfl rfl ?_ | refine agree_upd rfl ?_)
                  · omega
                  · refine ⟨i + 1, m2, ks, by omega, vec2 rfl rfl, hS, by omega, by omega, fun q => ?_, hN, hx, fun q hq => ?_, hb2⟩
                    · rw [hkc q, htk, Sts.step, ← Stp.congr hks]
                      have hc : (t[i]'(by omega)) = 47 := by first | rfl | exact (byte_eq _ 47 (by decide)).1 (of_decide_eq_true (by exact h54))
                      constructor
                      · rintro ⟨s, h1, h2⟩
                        rcases mem_add.1 h1 with rfl | h1
                        · exact .inr ⟨not_t h58, hc, h2⟩
                        · obtain ⟨s', h3, a, h4, f, h5, h6, h7⟩ := (hk2 s).1 h1
                          exact .inl ⟨s', h3, a, h4, f, h5, h6, by simpa using h7.trans h2⟩
                      · rintro (h | ⟨_, _, h⟩)
                        · exact ⟨q, mem_add.2 (.inr ((hk2 q).2 h)), .nil⟩
                        · exact ⟨0, mem_add.2 (.inl rfl), h⟩
                    · obtain ⟨s, h1, h2⟩ := (hkc q).1 hq
                      refine h2.lt hB.val ?_
                      rcases mem_add.1 h1 with rfl | h1
                      · omega
                      · exact hlt2 s h1
                · have g58 := h58
                  refine W_skip ?_
                  refine W_region ?_
                  refine WL_val rfl rfl rfl (st_add rfl rfl (by omega) (by omega)) ?_
                  refine WL_val rfl rfl rfl (st_mv (v := .int _ _) rfl) ?_
                  refine WL_nil ?_
                  refine rnd_end ?_ (m9 - 1) ?_ ?_
                  · repeat (first | exact agree_in rfl rfl (agree_refl _ _) | exact agree_refl _ _ | refine agree_in rfl rfl ?_ | refine agree_upd rfl ?_)
                  · omega
                  · exact ⟨i + 1, m2, ks2, by omega, vec2 rfl rfl, hS, by omega, by omega, fun q => by
                      rw [hk2 q, htk, Sts.step, ← Stp.congr hks]
                      exact ⟨.inl, fun h => h.elim id (fun ⟨hr2, hc2, _⟩ => (by rw [hr2] at h58; cases h58))⟩, hN, hx, hlt2, hb2⟩
              · have g54 := of_decide_eq_false h54
                refine WL_pass rfl rfl rfl (congrArg Value.bool h54) rfl rfl ?_
                refine WL_pass rfl rfl rfl (congrArg Value.bool h54) rfl rfl ?_
                refine WL_pass rfl rfl rfl (congrArg Value.bool h54) rfl rfl ?_
                refine WL_val rfl rfl rfl (st_pk_f (v := (.bool false)) (congrArg Value.bool h54) rfl) ?_
                refine WL_nil ?_
                refine W_no rfl ?_
                refine W_skip ?_
                refine W_region ?_
                refine WL_val rfl rfl rfl (st_add rfl rfl (by omega) (by omega)) ?_
                refine WL_val rfl rfl rfl (st_mv (v := .int _ _) rfl) ?_
                refine WL_nil ?_
                refine rnd_end ?_ (m9 - 1) ?_ ?_
                · repeat (first | exact agree_in rfl rfl (agree_refl _ _) | exact agree_refl _ _ | refine agree_in rfl rfl ?_ | refine agree_upd rfl ?_)
                · omega
                · exact ⟨i + 1, m2, ks2, by omega, vec2 rfl rfl, hS, by omega, by omega, fun q => by
                    rw [hk2 q, htk, Sts.step, ← Stp.congr hks]
                    exact ⟨.inl, fun h => h.elim id (fun ⟨hr2, hc2, _⟩ => (by first | exact absurd rfl (of_decide_eq_false h54) | exact absurd ((byte_eq _ 47 (by decide)).2 hc2) (of_decide_eq_false h54)))⟩, hN, hx, hlt2, hb2⟩
            · have g44 := of_decide_eq_false h44
              refine W_skip ?_
              refine W_seq ?_
              have htk : (byts t ++ [47]).take (i + 1) = (byts t ++ [47]).take i ++ [47] := by
                have hi : i = (byts t).length := by rw [byts_length]; omega
                rw [List.take_succ_eq_append_getElem (by rw [List.length_append, List.length_singleton]; omega), List.getElem_append_right (by omega)]
                simp
              refine W_region ?_
              refine WL_val rfl rfl rfl (st_mv (v := .pointer _) rfl) ?_
              refine WL_val rfl rfl rfl (st_mv (v := .map _) rfl) ?_
              refine WL_val rfl rfl rfl (st_mv (v := .int _ _) rfl) ?_
              refine WL_call rfl rfl rfl (step_ok n base b6 m N' ks (47 : UInt8) _ hN hS hn (by omega) hB.val hlt (by omega) hF) (ent_go rfl) ?_
              rintro _ w20 ⟨m2, ks2, rfl, hm2, hS2, hk2, hlt2, hx21⟩
              have hwm2 : w.heap.size ≤ m2 := by have := hx.size; omega
              replace hx := hx.ext hx21
              replace hN := hN.ext hx21
              clear hS
              have hS := hS2
              clear hS2
              replace hb2 := hb2.ext hx21
              refine WL_val rfl rfl rfl (st_as (v := .map _) rfl) ?_
              refine WL_nil ?_
              refine W_seq ?_
              refine W_region ?_
              refine WL_val rfl rfl rfl (st_mv (v := .int _ _) rfl) ?_
              refine WL_val rfl rfl rfl (st_eql rfl rfl) ?_
              refine WL_val rfl rfl rfl (st_mv (v := .bool _) rfl) ?_
              refine WL_split 54 rfl (fun h54 => ?_) (fun h54 => ?_)
              · have g54 := of_decide_eq_true h54
                refine WL_valg rfl rfl rfl (congrArg Value.bool h54) rfl rfl (st_fieldAddr (off := 0) Tryd.underlying24 rfl rfl ti4 rfl) ?_
                refine WL_valg rfl rfl rfl (congrArg Value.bool h54) rfl rfl (st_load ⟨_, Tryd.underlying4, rfl⟩ rfl (hb2.cell 0 rfl)) ?_
                refine WL_valg rfl rfl rfl (congrArg Value.bool h54) rfl rfl (st_not rfl) ?_
                refine WL_val rfl rfl rfl (st_pk_t (v := .bool _) (congrArg Value.bool h54) rfl) ?_
                refine WL_nil ?_
                refine W_cond rfl (fun h58 => ?_) (fun h58 => ?_)
                · have g58 := h58
                  refine W_seq ?_
                  refine W_region ?_
                  refine WL_val rfl rfl rfl (st_mv (v := .map _) rfl) ?_
                  refine WL_val rfl rfl rfl (st_mv (v := .int _ _) rfl) ?_
                  have hnm := (by omega : n ≤ m2)
                  have hwm := hwm2
                  refine WL_su (su_mapUpdate keyS Tryd.underlying67 hS rfl rfl rfl) rfl rfl ?_
                  rintro wI2 ⟨hSI, hfI⟩
                  replace hx := Fro.trans_new hx hfI (fun _ e => by subst e; exact hwm)
                  replace hN := hN.map hS hnm hfI
                  replace hb2 := hb2.fro hfI (fun e => hb2.ne_set hS e)
                  replace hS := hSI
                  have hS0 := hS
                  refine WL_nil ?_
                  refine W_region ?_
                  refine WL_val rfl rfl rfl (st_mv (v := .pointer _) rfl) ?_
                  refine WL_val rfl rfl rfl (st_mv (v := .map _) rfl) ?_
                  refine WL_call rfl rfl rfl (closure_ok n base b6 _ N' _ _ hN hS hB.val (fun q hq => by rcases mem_add.1 hq with rfl | hq; exact hpos; exact hlt2 q hq) (by omega) hF) (ent_go rfl) ?_
                  rintro _ w22 ⟨rfl, ks, hS2, hkc, hx23⟩
                  replace hx := Fro.trans_new hx hx23 (fun _ e => by subst e; exact hwm)
                  replace hN := hN.map hS hnm hx23
                  replace hS := hS2
                  replace hb2 := hb2.fro hx23 (fun e => hb2.ne_set hS0 e)
                  refine WL_nil ?_
                  refine W_region ?_
                  refine WL_val rfl rfl rfl (st_add rfl rfl (by omega) (by omega)) ?_
                  refine WL_val rfl rfl rfl (st_mv (v := .int _ _) rfl) ?_
                  refine WL_nil ?_
                  refine rnd_end ?_ (m9 - 1) ?_ ?_
                  · repeat (first | exact agree_in rfl rfl (agree_refl _ _) | exact agree_refl _ _ | refine agree_in rfl rfl ?_ | refine agree_upd rfl ?_)
                  · omega
                  · refine ⟨i + 1, m2, ks, by omega, vec2 rfl rfl, hS, by omega, by omega, fun q => ?_, hN, hx, fun q hq => ?_, hb2⟩
                    · rw [hkc q, htk, Sts.step, ← Stp.congr hks]
                      have hc : (47 : UInt8) = 47 := by first | rfl | exact (byte_eq _ 47 (by decide)).1 (of_decide_eq_true (by exact h54))
                      constructor
                      · rintro ⟨s, h1, h2⟩
                        rcases mem_add.1 h1 with rfl | h1
                        · exact .inr ⟨not_t h58, hc, h2⟩
                        · obtain ⟨s', h3, a, h4, f, h5, h6, h7⟩ := (hk2 s).1 h1
                          exact .inl ⟨s', h3, a, h4, f, h5, h6, by simpa using h7.trans h2⟩
                      · rintro (h | ⟨_, _, h⟩)
                        · exact ⟨q, mem_add.2 (.inr ((hk2 q).2 h)), .nil⟩
                        · exact ⟨0, mem_add.2 (.inl rfl), h⟩
                    · obtain ⟨s, h1, h2⟩ := (hkc q).1 hq
                      refine h2.lt hB.val ?_
                      rcases mem_add.1 h1 with rfl | h1
                      · omega
                      · exact hlt2 s h1
                · have g58 := h58
                  refine W_skip ?_
                  refine W_region ?_
                  refine WL_val rfl rfl rfl (st_add rfl rfl (by omega) (by omega)) ?_
                  refine WL_val rfl rfl rfl (st_mv (v := .int _ _) rfl) ?_
                  refine WL_nil ?_
                  refine rnd_end ?_ (m9 - 1) ?_ ?_
                  · repeat (first | exact agree_in rfl rfl (agree_refl _ _) | exact agree_refl _ _ | refine agree_in rfl rfl ?_ | refine agree_upd rfl ?_)
                  · omega
                  · exact ⟨i + 1, m2, ks2, by omega, vec2 rfl rfl, hS, by omega, by omega, fun q => by
                      rw [hk2 q, htk, Sts.step, ← Stp.congr hks]
                      exact ⟨.inl, fun h => h.elim id (fun ⟨hr2, hc2, _⟩ => (by rw [hr2] at h58; cases h58))⟩, hN, hx, hlt2, hb2⟩
              · have g54 := of_decide_eq_false h54
                refine WL_pass rfl rfl rfl (congrArg Value.bool h54) rfl rfl ?_
                refine WL_pass rfl rfl rfl (congrArg Value.bool h54) rfl rfl ?_
                refine WL_pass rfl rfl rfl (congrArg Value.bool h54) rfl rfl ?_
                refine WL_val rfl rfl rfl (st_pk_f (v := (.bool false)) (congrArg Value.bool h54) rfl) ?_
                refine WL_nil ?_
                refine W_no rfl ?_
                refine W_skip ?_
                refine W_region ?_
                refine WL_val rfl rfl rfl (st_add rfl rfl (by omega) (by omega)) ?_
                refine WL_val rfl rfl rfl (st_mv (v := .int _ _) rfl) ?_
                refine WL_nil ?_
                refine rnd_end ?_ (m9 - 1) ?_ ?_
                · repeat (first | exact agree_in rfl rfl (agree_refl _ _) | exact agree_refl _ _ | refine agree_in rfl rfl ?_ | refine agree_upd rfl ?_)
                · omega
                · exact ⟨i + 1, m2, ks2, by omega, vec2 rfl rfl, hS, by omega, by omega, fun q => by
                    rw [hk2 q, htk, Sts.step, ← Stp.congr hks]
                    exact ⟨.inl, fun h => h.elim id (fun ⟨hr2, hc2, _⟩ => (by first | exact absurd rfl (of_decide_eq_false h54) | exact absurd ((byte_eq _ 47 (by decide)).2 hc2) (of_decide_eq_false h54)))⟩, hN, hx, hlt2, hb2⟩
          · have g39 := of_decide_eq_false h39
            refine W_exit ?_
            refine W_seq ?_
            have hD : ∀ q, q ∈ ks ↔ Sts N' rt 0 (dirL (byts t)) q := fun q => by
              rw [hks q, List.take_of_length_le (by rw [List.length_append, byts_length, List.length_singleton]; omega)]
              unfold dirL
              rw [if_neg (fun h => g34 (byts_ext (t := ⟨#[]⟩) h))]
            refine W_region ?_
            refine WL_val rfl rfl rfl (st_mv (v := .pointer _) rfl) ?_
            refine WL_val rfl rfl rfl (st_mv (v := .map _) rfl) ?_
            refine WL_val rfl rfl rfl (st_mv (v := .int _ _) rfl) ?_
            refine WL_call rfl rfl rfl (some_ok n base b6 _ to N' ks _ hN hS hB.val hlt (by omega) hF) (ent_go rfl) ?_
            rintro _ w24 ⟨b, rfl, hbv, hx25⟩
            replace hx := hx.ext hx25
            replace hN := hN.ext hx25
            replace hS := hS.ext hx25
            replace hb2 := hb2.ext hx25
            refine WL_val rfl rfl rfl (st_as (v := .bool _) rfl) ?_
            refine WL_nil ?_
            refine W_ret ?_
            refine qr1 ?_
            exact ⟨b, rfl, hbv.trans ((vis_end hD (hB.start)).trans ⟨.inr, fun h => h.elim (fun h => absurd h hno) id⟩), hx⟩
      · have g34 := of_decide_eq_true (not_f h34)
        refine W_skip ?_
        refine W_seq ?_
        have hte : t = ⟨#[]⟩ := by first | exact g34 | exact Decidable.not_not.1 g34
        have hD : ∀ q, q ∈ ks ↔ Sts N' rt 0 (dirL (byts t)) q := fun q => by
          rw [hks q, hte]
          rfl
        refine W_region ?_
        refine WL_val rfl rfl rfl (st_mv (v := .pointer _) rfl) ?_
        refine WL_val rfl rfl rfl (st_mv (v := .map _) rfl) ?_
        refine WL_val rfl rfl rfl (st_mv (v := .int _ _) rfl) ?_
        refine WL_call rfl rfl rfl (some_ok n base b6 _ to N' ks _ hN hS hB.val hlt (by omega) hF) (ent_go rfl) ?_
        rintro _ w26 ⟨b, rfl, hbv, hx27⟩
        replace hx := hx.ext hx27
        replace hN := hN.ext hx27
        replace hb2 := hb2.ext hx27
        replace hS := hS.ext hx27
        refine WL_val rfl rfl rfl (st_as (v := .bool _) rfl) ?_
        refine WL_nil ?_
        refine W_ret ?_
        refine qr1 ?_
        exact ⟨b, rfl, hbv.trans ((vis_end hD (hB.start)).trans ⟨.inr, fun h => h.elim (fun h => absurd h hno) id⟩), hx⟩
  · have g13 := h13
    refine WL_pass rfl rfl rfl (congrArg Value.bool h13) rfl rfl ?_
    refine WL_pass rfl rfl rfl (congrArg Value.bool h13) rfl rfl ?_
    refine WL_pass rfl rfl rfl (congrArg Value.bool h13) rfl rfl ?_
    refine WL_val rfl rfl rfl (st_pk_f (v := (.bool false)) (congrArg Value.bool h13) rfl) ?_
    refine WL_nil ?_
    refine W_no rfl ?_
    refine W_skip ?_
    refine W_seq ?_
    have hno : ¬ (dr = true ∧ FitL rt (LP ps) (byts t) true true) := fun h => by
      rw [h13] at h; cases h.1
    obtain ⟨base, hbase⟩ : ∃ b, b = w2.heap.size := ⟨_, rfl⟩
    have hwb : w.heap.size ≤ base := by have := hx.size; omega
    have hn : n ≤ base := by omega
    refine W_region ?_
    refine WL_val rfl rfl rfl (st_build (pl := [(0, 1)]) (cs := [.slice none 0 0]) ti64 Tryd.underlying64 (fun _ => by kernel_rfl) rfl) ?_
    refine WL_ef (ef_box (cs := [_]) rfl) rfl rfl rfl ?_
    rintro _ w29 ⟨b28, rfl, hl19, hb19, hx30⟩
    replace hx := hx.ext hx30
    replace hps := hps.ext hx30
    replace hb2 := hb2.ext hx30
    refine WL_val rfl rfl rfl (st_as (v := .pointer _) rfl) ?_
    refine WL_nil ?_
    refine W_seq ?_
    have hnb0 : base ≤ b28 := by rw [hbase]; exact hl19
    have hN : Net w29 n base b28 [] := ⟨fun _ => base, hnb0, .slice none 0 0, [], base, hb19, Own.nil _ _ _ _, Nat.le_refl _, fun i ars h => by simp at h, fun i j h => by simp at h, by simp⟩
    have hnbl := hb19.lt
    refine W_region ?_
    refine WL_val rfl rfl rfl (st_mv (v := .pointer _) rfl) ?_
    refine WL_call rfl rfl rfl (state_net n base b28 [] _ hN hn (by omega) (by simp)) (ent_go rfl) ?_
    rintro _ w31 ⟨rfl, hN1, hx32⟩
    replace hN := hN1; clear hN1
    have hsz1 := Fro.size hx32
    replace hN : Net _ n base b28 [[]] := hN
    replace hx := Fro.trans_new hx (NStep.low hx32 (Nat.le_refl base)) (fun k e => Nat.le_trans hwb e)
    replace hps := hps.nstep hx32 hn
    replace hb2 := hb2.nstep hx32 (by decide)
    refine WL_val rfl rfl rfl (st_as (v := .int _ _) rfl) ?_
    refine WL_nil ?_
    refine W_seq ?_
    refine W_region ?_
    refine WL_val rfl rfl rfl (st_mv (v := .pointer _) rfl) ?_
    refine WL_val rfl rfl rfl (st_fieldAddr (off := 2) Tryd.underlying24 rfl rfl ti22 rfl) ?_
    refine WL_val rfl rfl rfl (st_load ⟨_, Tryd.underlying22, rfl⟩ rfl (hb2.cell 2 rfl)) ?_
    refine WL_val rfl rfl rfl (st_mv (v := .int _ _) rfl) ?_
    refine WL_call rfl rfl rfl (list_ok _ ps (Nat.lt_succ_self _) n base b28 0 0 0 [[]] _ _ hN hn (by omega) (fun q a h => by cases q <;> cases h) (by simp) (by simp) (fun q => by cases q <;> simp [arws]) hk (by simp; omega) hps) (ent_go rfl) ?_
    rintro _ w33 ⟨to, N', rfl, hN1, hx34, hB, hF, hl⟩
    replace hN := hN1; clear hN1
    have hsz2 := Fro.size hx34
    have hpos : 0 < N'.length := by have := hB.len; simp at this; omega
    rw [List.length_singleton] at hl
    replace hx := Fro.trans_new hx (NStep.low hx34 (Nat.le_refl base)) (fun k e => Nat.le_trans hwb e)
    replace hps := hps.nstep hx34 hn
    replace hb2 := hb2.nstep hx34 (by decide)
    refine WL_val rfl rfl rfl (st_as (v := .int _ _) rfl) ?_
    refine WL_nil ?_
    refine W_seq ?_
    skip
    refine W_region ?_
    refine WL_ef (ef_makeMap mkI) rfl rfl rfl ?_
    rintro _ wM ⟨m, rfl, hm, hS, hxM⟩
    have hwm : w.heap.size ≤ m := by have := hx.size; omega
    have hnm : n ≤ m := by omega
    replace hx := hx.ext hxM
    replace hN := hN.ext hxM
    replace hb2 := hb2.ext hxM
    refine WL_val rfl rfl rfl (st_mv (v := .int _ _) rfl) ?_
    refine WL_su (su_insert keyS Tryd.underlying67 hS rfl rfl rfl) rfl rfl ?_
    rintro wI ⟨hSI, hfI⟩
    replace hx := Fro.trans_new hx hfI (fun _ e => by subst e; exact hwm)
    replace hN := hN.map hS hnm hfI
    replace hb2 := hb2.fro hfI (fun e => hb2.ne_set hS e)
    replace hS := hSI
    refine WL_val rfl rfl rfl (st_mv (v := .map _) rfl) ?_
    refine WL_val rfl rfl rfl (st_as (v := .map _) rfl) ?_
    refine WL_nil ?_
    refine W_seq ?_
    rw [if_neg (by simp)] at hS
    have hS0 := hS
    refine W_region ?_
    refine WL_val rfl rfl rfl (st_mv (v := .pointer _) rfl) ?_
    refine WL_val rfl rfl rfl (st_mv (v := .map _) rfl) ?_
    refine WL_call rfl rfl rfl (closure_ok n base b28 _ N' _ _ hN hS hB.val (fun q hq => by simp at hq; omega) (by omega) hF) (ent_go rfl) ?_
    rintro _ w35 ⟨rfl, ks, hS2, hk2, hx36⟩
    replace hx := Fro.trans_new hx hx36 (fun _ e => by subst e; exact hwm)
    replace hN := hN.map hS hnm hx36
    replace hb2 := hb2.fro hx36 (fun e => hb2.ne_set hS0 e)
    replace hS := hS2
    refine WL_nil ?_
    refine W_seq ?_
    refine W_seq ?_
    have hks : ∀ q, q ∈ ks ↔ Sts N' rt 0 [] q := fun q => by
      rw [hk2 q, Sts.nil]
      simp
    have hlt : ∀ q ∈ ks, q < N'.length := fun q hq => by
      obtain ⟨s, h1, h2⟩ := (hk2 q).1 hq
      exact h2.lt hB.val (by simp at h1; omega)
    clear hk2
    refine W_region ?_
    refine WL_val rfl rfl rfl (st_mv (v := .string _) rfl) ?_
    refine WL_val rfl rfl rfl (st_neqs rfl rfl) ?_
    refine WL_nil ?_
    refine W_cond rfl (fun h34 => ?_) (fun h34 => ?_)
    · have g34 := of_decide_eq_false (not_t h34)
      refine W_seq ?_
      refine W_region ?_
      refine WL_val rfl rfl rfl (st_mv (v := .string _) rfl) ?_
      refine WL_val rfl rfl rfl (st_lens Tryd.underlying9 rfl) ?_
      refine WL_val rfl rfl rfl (st_add rfl rfl (by omega) (by omega)) ?_
      refine WL_val rfl rfl rfl (st_mv (v := (.int .i64 0)) rfl) ?_
      refine WL_nil ?_
      refine W_block ?_
      refine W_loop [8, 38] [8, 9, 10, 38, 39, 40, 41, 42, 43, 44, 45, 46, 47, 48, 49, 50, 51, 52, 53, 54, 55, 56, 57, 58, 59, 60, 61, 62, 63, 64] (fun m' vs w1 => ∃ (i m : Nat) (ks : List Nat), i + m' = t.size + 1 ∧ vs = [.map (some m), .int .i64 (i : Int)] ∧ SetAt w1 m mkI ks ∧ n ≤ m ∧ w.heap.size ≤ m ∧ (∀ q, q ∈ ks ↔ Sts N' rt 0 ((byts t ++ [47]).take i) q) ∧ Net w1 n base b28 N' ∧ Ext w w1 ∧ (∀ q ∈ ks, q < N'.length) ∧ Blk w1 b1 24 [.bool rt, .bool dr, .slice a l cp]) ?_ ?_
      · exact ⟨t.size + 1, 0, m, ks, by omega, rfl, hS, hnm, hwm, hks, hN, hx, hlt, hb2⟩
      · intro m9 vs w37 u hI
        obtain ⟨i, m, ks, hi, rfl, hS, hnm, hwm, hks, hN, hx, hlt, hb2⟩ := hI
        have hszL := hx.size
        have hNlt := hN.lt
        refine W_seq ?_
        refine W_region ?_
        refine WL_val rfl rfl rfl (st_lss rfl rfl) ?_
        refine WL_nil ?_
        refine W_seq ?_
        refine W_cond rfl (fun h39 => ?_) (fun h39 => ?_)
        · have g39 := of_decide_eq_true h39
          refine W_skip ?_
          refine W_seq ?_
          refine W_block ?_
          refine W_seq ?_
          refine W_region ?_
          refine WL_val rfl rfl rfl (st_mv (v := .int _ _) rfl) ?_
          refine WL_val rfl rfl rfl (st_as (v := .int _ _) rfl) ?_
          refine WL_nil ?_
          refine W_seq ?_
          refine W_region ?_
          refine WL_val rfl rfl rfl (st_as (v := (.int .u8 47)) rfl) ?_
          refine WL_nil ?_
          refine W_seq ?_
          refine W_seq ?_
          refine W_region ?_
          refine WL_val rfl rfl rfl (st_mv (v := .int _ _) rfl) ?_
          refine WL_val rfl rfl rfl (st_mv (v := .string _) rfl) ?_
          refine WL_val rfl rfl rfl (st_lens Tryd.underlying9 rfl) ?_
          refine WL_val rfl rfl rfl (st_lss rfl rfl) ?_
          refine WL_nil ?_
          refine W_cond rfl (fun h44 => ?_) (fun h44 => ?_)
          · have g44 := of_decide_eq_true h44
            refine W_region ?_
            refine WL_val rfl rfl rfl (st_mv (v := .string _) rfl) ?_
            refine WL_val rfl rfl rfl (st_mv (v := .int _ _) rfl) ?_
            refine WL_val rfl rfl rfl (st_index (s := t) (i := i) Tryd.underlying9 rfl rfl (by omega)) ?_
            refine WL_val rfl rfl rfl (st_as (v := .int _ _) rfl) ?_
            refine WL_nil ?_
            refine W_seq ?_
            have htk : (byts t ++ [47]).take (i + 1) = (byts t ++ [47]).take i ++ [t[i]'(by omega)] := by
              have hi : i < (byts t).length := by rw [byts_length]; omega
              rw [List.take_succ_eq_append_getElem (by rw [List.length_append, List.length_singleton]; omega), List.getElem_append_left hi]
              rfl
            refine W_region ?_
            refine WL_val rfl rfl rfl (st_mv (v := .pointer _) rfl) ?_
            refine WL_val rfl rfl rfl (st_mv (v := .map _) rfl) ?_
            refine WL_val rfl rfl rfl (st_mv (v := .int _ _) rfl) ?_
            refine WL_call rfl rfl rfl (step_ok n base b28 m N' ks (t[i]'(by omega)) _ hN hS hn (by omega) hB.val hlt (by omega) hF) (ent_go rfl) ?_
            rintro _ w38 ⟨m2, ks2, rfl, hm2, hS2, hk2, hlt2, hx39⟩
            have hwm2 : w.heap.size ≤ m2 := by have := hx.size; omega
            replace hx := hx.ext hx39
            replace hN := hN.ext hx39
            clear hS
            have hS := hS2
            clear hS2
            replace hb2 := hb2.ext hx39
            refine WL_val rfl rfl rfl (st_as (v := .map _) rfl) ?_
            refine WL_nil ?_
            refine W_seq ?_
            refine W_region ?_
            refine WL_val rfl rfl rfl (st_mv (v := .int _ _) rfl) ?_
            refine WL_val rfl rfl rfl (st_eql rfl rfl) ?_
            refine WL_val rfl rfl rfl (st_mv (v := .bool _) rfl) ?_
            refine WL_split 54 rfl (fun h54 => ?_) (fun h54 => ?_)
            · have g54 := of_decide_eq_true h54
              refine WL_valg rfl rfl rfl (congrArg Value.bool h54) rfl rfl (st_fieldAddr (off := 0) Tryd.underlying24 rfl rfl ti4 rfl) ?_
              refine WL_valg rfl rfl rfl (congrArg Value.bool h54) rfl rfl (st_load ⟨_, Tryd.underlying4, rfl⟩ rfl (hb2.cell 0 rfl)) ?_
              refine WL_valg rfl rfl rfl (congrArg Value.bool h54) rfl rfl (st_not rfl) ?_
              refine WL_val rfl rfl rfl (st_pk_t (v := .bool _) (congrArg Value.bool h54) rfl) ?_
              refine WL_nil ?_
              refine W_cond rfl (fun h58 => ?_) (fun h58 => ?_)
              · have g58 := h58
                refine W_seq ?_
                refine W_region ?_
                refine WL_val rfl rfl rfl (st_mv (v := .map _) rfl) ?_
                refine WL_val rfl rfl rfl (st_mv (v := .int _ _) rfl) ?_
                have hnm := (by omega : n ≤ m2)
                have hwm := hwm2
                refine WL_su (su_mapUpdate keyS Tryd.underlying67 hS rfl rfl rfl) rfl rfl ?_
                rintro wI2 ⟨hSI, hfI⟩
                replace hx := Fro.trans_new hx hfI (fun _ e => by subst e; exact hwm)
                replace hN := hN.map hS hnm hfI
                replace hb2 := hb2.fro hfI (fun e => hb2.ne_set hS e)
                replace hS := hSI
                have hS0 := hS
                refine WL_nil ?_
                refine W_region ?_
                refine WL_val rfl rfl rfl (st_mv (v := .pointer _) rfl) ?_
                refine WL_val rfl rfl rfl (st_mv (v := .map _) rfl) ?_
                refine WL_call rfl rfl rfl (closure_ok n base b28 _ N' _ _ hN hS hB.val (fun q hq => by rcases mem_add.1 hq with rfl | hq; exact hpos; exact hlt2 q hq) (by omega) hF) (ent_go rfl) ?_
                rintro _ w40 ⟨rfl, ks, hS2, hkc, hx41⟩
                replace hx := Fro.trans_new hx hx41 (fun _ e => by subst e; exact hwm)
                replace hN := hN.map hS hnm hx41
                replace hS := hS2
                replace hb2 := hb2.fro hx41 (fun e => hb2.ne_set hS0 e)
                refine WL_nil ?_
                refine W_region ?_
                refine WL_val rfl rfl rfl (st_add rfl rfl (by omega) (by omega)) ?_
                refine WL_val rfl rfl rfl (st_mv (v := .int _ _) rfl) ?_
                refine WL_nil ?_
                refine rnd_end ?_ (m9 - 1) ?_ ?_
                · repeat (first | exact agree_in rfl rfl (agree_refl _ _) | exact agree_refl _ _ | refine agree_in rfl rfl ?_ | refine agree_upd rfl ?_)
                · omega
                · refine ⟨i + 1, m2, ks, by omega, vec2 rfl rfl, hS, by omega, by omega, fun q => ?_, hN, hx, fun q hq => ?_, hb2⟩
                  · rw [hkc q, htk, Sts.step, ← Stp.congr hks]
                    have hc : (t[i]'(by omega)) = 47 := by first | rfl | exact (byte_eq _ 47 (by decide)).1 (of_decide_eq_true (by exact h54))
                    constructor
                    · rintro ⟨s, h1, h2⟩
                      rcases mem_add.1 h1 with rfl | h1
                      · exact .inr ⟨not_t h58, hc, h2⟩
                      · obtain ⟨s', h3, a, h4, f, h5, h6, h7⟩ := (hk2 s).1 h1
                        exact .inl ⟨s', h3, a, h4, f, h5, h6, by simpa using h7.trans h2⟩
                    · rintro (h | ⟨_, _, h⟩)
                      · exact ⟨q, mem_add.2 (.inr ((hk2 q).2 h)), .nil⟩
                      · exact ⟨0, mem_add.2 (.inl rfl), h⟩
                  · obtain ⟨s, h1, h2⟩ := (hkc q).1 hq
                    refine h2.lt hB.val ?_
                    rcases mem_add.1 h1 with rfl | h1
                    · omega
                    · exact hlt2 s h1
              · have g58 := h58
                refine W_skip ?_
                refine W_region ?_
                refine WL_val rfl rfl rfl (st_add rfl rfl (by omega) (by omega)) ?_
                refine WL_val rfl rfl rfl (st_mv (v := .int _ _) rfl) ?_
                refine WL_nil ?_
                refine rnd_end ?_ (m9 - 1) ?_ ?_
                · repeat (first | exact agree_in rfl rfl (agree_refl _ _) | exact agree_refl _ _ | refine agree_in rfl rfl ?_ | refine agree_upd rfl ?_)
                · omega
                · exact ⟨i + 1, m2, ks2, by omega, vec2 rfl rfl, hS, by omega, by omega, fun q => by
                    rw [hk2 q, htk, Sts.step, ← Stp.congr hks]
                    exact ⟨.inl, fun h => h.elim id (fun ⟨hr2, hc2, _⟩ => (by rw [hr2] at h58; cases h58))⟩, hN, hx, hlt2, hb2⟩
            · have g54 := of_decide_eq_false h54
              refine WL_pass rfl rfl rfl (congrArg Value.bool h54) rfl rfl ?_
              refine WL_pass rfl rfl rfl (congrArg Value.bool h54) rfl rfl ?_
              refine WL_pass rfl rfl rfl (congrArg Value.bool h54) rfl rfl ?_
              refine WL_val rfl rfl rfl (st_pk_f (v := (.bool false)) (congrArg Value.bool h54) rfl) ?_
              refine WL_nil ?_
              refine W_no rfl ?_
              refine W_skip ?_
              refine W_region ?_
              refine WL_val rfl rfl rfl (st_add rfl rfl (by omega) (by omega)) ?_
              refine WL_val rfl rfl rfl (st_mv (v := .int _ _) rfl) ?_
              refine WL_nil ?_
              refine rnd_end ?_ (m9 - 1) ?_ ?_
              · repeat (first | exact agree_in rfl rfl (agree_refl _ _) | exact agree_refl _ _ | refine agree_in rfl rfl ?_ | refine agree_upd rfl ?_)
              · omega
              · exact ⟨i + 1, m2, ks2, by omega, vec2 rfl rfl, hS, by omega, by omega, fun q => by
                  rw [hk2 q, htk, Sts.step, ← Stp.congr hks]
                  exact ⟨.inl, fun h => h.elim id (fun ⟨hr2, hc2, _⟩ => (by first | exact absurd rfl (of_decide_eq_false h54) | exact absurd ((byte_eq _ 47 (by decide)).2 hc2) (of_decide_eq_false h54)))⟩, hN, hx, hlt2, hb2⟩
          · have g44 := of_decide_eq_false h44
            refine W_skip ?_
            refine W_seq ?_
            have htk : (byts t ++ [47]).take (i + 1) = (byts t ++ [47]).take i ++ [47] := by
              have hi : i = (byts t).length := by rw [byts_length]; omega
              rw [List.take_succ_eq_append_getElem (by rw [List.length_append, List.length_singleton]; omega), List.getElem_append_right (by omega)]
              simp
            refine W_region ?_
            refine WL_val rfl rfl rfl (st_mv (v := .pointer _) rfl) ?_
            refine WL_val rfl rfl rfl (st_mv (v := .map _) rfl) ?_
            refine WL_val rfl rfl rfl (st_mv (v := .int _ _) rfl) ?_
            refine WL_call rfl rfl rfl (step_ok n base b28 m N' ks (47 : UInt8) _ hN hS hn (by omega) hB.val hlt (by omega) hF) (ent_go rfl) ?_
            rintro _ w42 ⟨m2, ks2, rfl, hm2, hS2, hk2, hlt2, hx43⟩
            have hwm2 : w.heap.size ≤ m2 := by have := hx.size; omega
            replace hx := hx.ext hx43
            replace hN := hN.ext hx43
            clear hS
            have hS := hS2
            clear hS2
            replace hb2 := hb2.ext hx43
            refine WL_val rfl rfl rfl (st_as (v := .map _) rfl) ?_
            refine WL_nil ?_
            refine W_seq ?_
            refine W_region ?_
            refine WL_val rfl rfl rfl (st_mv (v := .int _ _) rfl) ?_
            refine WL_val rfl rfl rfl (st_eql rfl rfl) ?_
            refine WL_val rfl rfl rfl (st_mv (v := .bool _) rfl) ?_
            refine WL_split 54 rfl (fun h54 => ?_) (fun h54 => ?_)
            · have g54 := of_decide_eq_true h54
              refine WL_valg rfl rfl rfl (congrArg Value.bool h54) rfl rfl (st_fieldAddr (off := 0) Tryd.underlying24 rfl rfl ti4 rfl) ?_
              refine WL_valg rfl rfl rfl (congrArg Value.bool h54) rfl rfl (st_load ⟨_, Tryd.underlying4, rfl⟩ rfl (hb2.cell 0 rfl)) ?_
              refine WL_valg rfl rfl rfl (congrArg Value.bool h54) rfl rfl (st_not rfl) ?_
              refine WL_val rfl rfl rfl (st_pk_t (v := .bool _) (congrArg Value.bool h54) rfl) ?_
              refine WL_nil ?_
              refine W_cond rfl (fun h58 => ?_) (fun h58 => ?_)
              · have g58 := h58
                refine W_seq ?_
                refine W_region ?_
                refine WL_val rfl rfl rfl (st_mv (v := .map _) rfl) ?_
                refine WL_val rfl rfl rfl (st_mv (v := .int _ _) rfl) ?_
                have hnm := (by omega : n ≤ m2)
                have hwm := hwm2
                refine WL_su (su_mapUpdate keyS Tryd.underlying67 hS rfl rfl rfl) rfl rfl ?_
                rintro wI2 ⟨hSI, hfI⟩
                replace hx := Fro.trans_new hx hfI (fun _ e => by subst e; exact hwm)
                replace hN := hN.map hS hnm hfI
                replace hb2 := hb2.fro hfI (fun e => hb2.ne_set hS e)
                replace hS := hSI
                have hS0 := hS
                refine WL_nil ?_
                refine W_region ?_
                refine WL_val rfl rfl rfl (st_mv (v := .pointer _) rfl) ?_
                refine WL_val rfl rfl rfl (st_mv (v := .map _) rfl) ?_
                refine WL_call rfl rfl rfl (closure_ok n base b28 _ N' _ _ hN hS hB.val (fun q hq => by rcases mem_add.1 hq with rfl | hq; exact hpos; exact hlt2 q hq) (by omega) hF) (ent_go rfl) ?_
                rintro _ w44 ⟨rfl, ks, hS2, hkc, hx45⟩
                replace hx := Fro.trans_new hx hx45 (fun _ e => by subst e; exact hwm)
                replace hN := hN.map hS hnm hx45
                replace hS := hS2
                replace hb2 := hb2.fro hx45 (fun e => hb2.ne_set hS0 e)
                refine WL_nil ?_
                refine W_region ?_
                refine WL_val rfl rfl rfl (st_add rfl rfl (by omega) (by omega)) ?_
                refine WL_val rfl rfl rfl (st_mv (v := .int _ _) rfl) ?_
                refine WL_nil ?_
                refine rnd_end ?_ (m9 - 1) ?_ ?_
                · repeat (first | exact agree_in rfl rfl (agree_refl _ _) | exact agree_refl _ _ | refine agree_in rfl rfl ?_ | refine agree_upd rfl ?_)
                · omega
                · refine ⟨i + 1, m2, ks, by omega, vec2 rfl rfl, hS, by omega, by omega, fun q => ?_, hN, hx, fun q hq => ?_, hb2⟩
                  · rw [hkc q, htk, Sts.step, ← Stp.congr hks]
                    have hc : (47 : UInt8) = 47 := by first | rfl | exact (byte_eq _ 47 (by decide)).1 (of_decide_eq_true (by exact h54))
                    constructor
                    · rintro ⟨s, h1, h2⟩
                      rcases mem_add.1 h1 with rfl | h1
                      · exact .inr ⟨not_t h58, hc, h2⟩
                      · obtain ⟨s', h3, a, h4, f, h5, h6, h7⟩ := (hk2 s).1 h1
                        exact .inl ⟨s', h3, a, h4, f, h5, h6, by simpa using h7.trans h2⟩
                    · rintro (h | ⟨_, _, h⟩)
                      · exact ⟨q, mem_add.2 (.inr ((hk2 q).2 h)), .nil⟩
                      · exact ⟨0, mem_add.2 (.inl rfl), h⟩
                  · obtain ⟨s, h1, h2⟩ := (hkc q).1 hq
                    refine h2.lt hB.val ?_
                    rcases mem_add.1 h1 with rfl | h1
                    · omega
                    · exact hlt2 s h1
              · have g58 := h58
                refine W_skip ?_
                refine W_region ?_
                refine WL_val rfl rfl rfl (st_add rfl rfl (by omega) (by omega)) ?_
                refine WL_val rfl rfl rfl (st_mv (v := .int _ _) rfl) ?_
                refine WL_nil ?_
                refine rnd_end ?_ (m9 - 1) ?_ ?_
                · repeat (first | exact agree_in rfl rfl (agree_refl _ _) | exact agree_refl _ _ | refine agree_in rfl rfl ?_ | refine agree_upd rfl ?_)
                · omega
                · exact ⟨i + 1, m2, ks2, by omega, vec2 rfl rfl, hS, by omega, by omega, fun q => by
                    rw [hk2 q, htk, Sts.step, ← Stp.congr hks]
                    exact ⟨.inl, fun h => h.elim id (fun ⟨hr2, hc2, _⟩ => (by rw [hr2] at h58; cases h58))⟩, hN, hx, hlt2, hb2⟩
            · have g54 := of_decide_eq_false h54
              refine WL_pass rfl rfl rfl (congrArg Value.bool h54) rfl rfl ?_
              refine WL_pass rfl rfl rfl (congrArg Value.bool h54) rfl rfl ?_
              refine WL_pass rfl rfl rfl (congrArg Value.bool h54) rfl rfl ?_
              refine WL_val rfl rfl rfl (st_pk_f (v := (.bool false)) (congrArg Value.bool h54) rfl) ?_
              refine WL_nil ?_
              refine W_no rfl ?_
              refine W_skip ?_
              refine W_region ?_
              refine WL_val rfl rfl rfl (st_add rfl rfl (by omega) (by omega)) ?_
              refine WL_val rfl rfl rfl (st_mv (v := .int _ _) rfl) ?_
              refine WL_nil ?_
              refine rnd_end ?_ (m9 - 1) ?_ ?_
              · repeat (first | exact agree_in rfl rfl (agree_refl _ _) | exact agree_refl _ _ | refine agree_in rfl rfl ?_ | refine agree_upd rfl ?_)
              · omega
              · exact ⟨i + 1, m2, ks2, by omega, vec2 rfl rfl, hS, by omega, by omega, fun q => by
                  rw [hk2 q, htk, Sts.step, ← Stp.congr hks]
                  exact ⟨.inl, fun h => h.elim id (fun ⟨hr2, hc2, _⟩ => (by first | exact absurd rfl (of_decide_eq_false h54) | exact absurd ((byte_eq _ 47 (by decide)).2 hc2) (of_decide_eq_false h54)))⟩, hN, hx, hlt2, hb2⟩
        · have g39 := of_decide_eq_false h39
          refine W_exit ?_
          refine W_seq ?_
          have hD : ∀ q, q ∈ ks ↔ Sts N' rt 0 (dirL (byts t)) q := fun q => by
            rw [hks q, List.take_of_length_le (by rw [List.length_append, byts_length, List.length_singleton]; omega)]
            unfold dirL
            rw [if_neg (fun h => g34 (byts_ext (t := ⟨#[]⟩) h))]
          refine W_region ?_
          refine WL_val rfl rfl rfl (st_mv (v := .pointer _) rfl) ?_
          refine WL_val rfl rfl rfl (st_mv (v := .map _) rfl) ?_
          refine WL_val rfl rfl rfl (st_mv (v := .int _ _) rfl) ?_
          refine WL_call rfl rfl rfl (some_ok n base b28 _ to N' ks _ hN hS hB.val hlt (by omega) hF) (ent_go rfl) ?_
          rintro _ w46 ⟨b, rfl, hbv, hx47⟩
          replace hx := hx.ext hx47
          replace hN := hN.ext hx47
          replace hS := hS.ext hx47
          replace hb2 := hb2.ext hx47
          refine WL_val rfl rfl rfl (st_as (v := .bool _) rfl) ?_
          refine WL_nil ?_
          refine W_ret ?_
          refine qr1 ?_
          exact ⟨b, rfl, hbv.trans ((vis_end hD (hB.start)).trans ⟨.inr, fun h => h.elim (fun h => absurd h hno) id⟩), hx⟩
    · have g34 := of_decide_eq_true (not_f h34)
      refine W_skip ?_
      refine W_seq ?_
      have hte : t = ⟨#[]⟩ := by first | exact g34 | exact Decidable.not_not.1 g34
      have hD : ∀ q, q ∈ ks ↔ Sts N' rt 0 (dirL (byts t)) q := fun q => by
        rw [hks q, hte]
        rfl
      refine W_region ?_
      refine WL_val rfl rfl rfl (st_mv (v := .pointer _) rfl) ?_
      refine WL_val rfl rfl rfl (st_mv (v := .map _) rfl) ?_
      refine WL_val rfl rfl rfl (st_mv (v := .int _ _) rfl) ?_
      refine WL_call rfl rfl rfl (some_ok n base b28 _ to N' ks _ hN hS hB.val hlt (by omega) hF) (ent_go rfl) ?_
      rintro _ w48 ⟨b, rfl, hbv, hx49⟩
      replace hx := hx.ext hx49
      replace hN := hN.ext hx49
      replace hb2 := hb2.ext hx49
      replace hS := hS.ext hx49
      refine WL_val rfl rfl rfl (st_as (v := .bool _) rfl) ?_
      refine WL_nil ?_
      refine W_ret ?_
      refine qr1 ?_
      exact ⟨b, rfl, hbv.trans ((vis_end hD (hB.start)).trans ⟨.inr, fun h => h.elim (fun h => absurd h hno) id⟩), hx⟩
end Go.Proofs.YtndfhicdabdafaaDoor
