/- Checks of globs: walks of partCount. -/
import Derived.Test.YtndfhicdabdafaaDoorM
import Derived.Test.YtndfhicdabdafaaDoorKt
namespace Go.Proofs.YtndfhicdabdafaaDoor
open Go Go.RowKit

theorem partCount_ok (N : Nat) : ∀ (ps : List Part), cntP ps < N → cntP ps ≤ 4611686018427387904 → ∀ (D : Nat → Prop) (v : Value) (w : World), PartsAt D w v ps →
    Fun Tryd.prog 12 [v] w (fun r w' => r = .tuple #[.int .i64 (cntP ps : Nat), .int .i64 (depP ps : Nat)] ∧ Ext w w') := by
  induction N with
  | zero => intro ps h; omega
  | succ N ih =>
  intro ps hN hb D v w hps
  obtain ⟨a, cp, rfl, hpl⟩ := hps.form
  refine fun2 Tryd.func12 rfl (by kernel_rfl) rfl rfl rfl ?_
  refine W_seq ?_
  refine W_region ?_
  refine WL_val rfl rfl rfl (st_as (v := (.int .i64 0)) rfl) ?_
  refine WL_val rfl rfl rfl (st_as (v := (.int .i64 0)) rfl) ?_
  refine WL_nil ?_
  refine W_seq ?_
  refine W_seq ?_
  refine W_region ?_
  refine WL_val rfl rfl rfl (st_mv (v := .slice _ _ _) rfl) ?_
  refine WL_val rfl rfl rfl (st_len Tryd.underlying22 rfl) ?_
  refine WL_val rfl rfl rfl (st_mv (v := (.int .i64 0)) rfl) ?_
  refine WL_nil ?_
  refine W_block ?_
  refine W_loop [13, 2, 3] [2, 3, 5, 6, 8, 9, 10, 13, 14, 15, 16, 17, 18, 19, 20, 21, 22, 23, 24, 25, 26, 27, 28, 29, 30, 31, 32, 33, 34, 35, 36, 37, 38, 39, 40, 41, 42, 43, 44, 45, 46] (fun m vs w1 => ∃ k c d : Nat, k + m = ps.length ∧ vs = [.int .i64 (k : Int), .int .i64 (c : Int), .int .i64 (d : Int)] ∧ c + cntP (ps.drop k) = cntP ps ∧ max d (depP (ps.drop k)) = depP ps ∧ d ≤ c ∧ Ext w w1) ?_ ?_
  · exact ⟨ps.length, 0, 0, 0, by omega, rfl, by simp, by simp, by omega, Ext.refl _⟩
  · intro m vs w1 u hI
    obtain ⟨k, c, d, hk, rfl, hcnt, hdep, hdc, hx0⟩ := hI
    have hps1 := hps.ext hx0
    refine W_seq ?_
    refine W_region ?_
    refine WL_val rfl rfl rfl (st_lss rfl rfl) ?_
    refine WL_nil ?_
    refine W_seq ?_
    refine W_cond rfl (fun h14 => ?_) (fun h14 => ?_)
    · have g14 := of_decide_eq_true h14
      refine W_skip ?_
      refine W_seq ?_
      refine W_block ?_
      refine W_seq ?_
      have hk' : k < ps.length := by omega
      obtain ⟨pb, po, rv, wv, hpD, hpa, hpc, hpr, hpw⟩ := hps1.at hk'
      have hdr := drop_at hk'
      generalize ps[k] = p at hpc hpr hpw hdr
      rw [hdr] at hcnt hdep
      simp only [cntP, depP] at hcnt hdep
      obtain ⟨wa, wcp, rfl, hwl⟩ := hpw.form
      obtain ⟨ra, rcp, rfl, hrl⟩ := hpr.form
      refine W_region ?_
      refine WL_val rfl rfl rfl (st_indexAddr Tryd.underlying22 ti33 rfl hpa rfl (by omega)) ?_
      refine WL_val rfl rfl rfl (st_loada ⟨_, Tryd.underlying33, rfl⟩ ti33 rfl hpc rfl) ?_
      refine WL_ef (ef_alloc ti33) rfl rfl rfl ?_
      rintro _ w3 ⟨b2, rfl, hl5, hb5, hx4⟩
      refine WL_su (su_storea ti33 rfl hb5 rfl rfl (Nat.le_of_ble_eq_true rfl) rfl) rfl rfl ?_
      rintro w5 ⟨hnb, hf6⟩
      have hx7 : Ext w1 w5 := hx4.trans_new hf6 (fun _ h => by subst h; exact hl5)
      clear hb5
      have hb5 : Blk _ _ _ [_, _, _, _, _] := hnb
      clear hnb
      replace hps1 := hps1.ext hx7
      replace hx0 := hx0.ext hx7
      replace hpw := hpw.ext hx7
      refine WL_nil ?_
      refine W_seq ?_
      refine W_region ?_
      refine WL_val rfl rfl rfl (st_mv (v := .int _ _) rfl) ?_
      refine WL_val rfl rfl rfl (st_add rfl rfl (by omega) (by omega)) ?_
      refine WL_val rfl rfl rfl (st_as (v := .int _ _) rfl) ?_
      refine WL_nil ?_
      refine W_seq ?_
      refine W_region ?_
      refine WL_val rfl rfl rfl (st_as (v := (.int .i64 0)) rfl) ?_
      refine WL_nil ?_
      refine W_seq ?_
      refine W_seq ?_
      refine W_region ?_
      refine WL_val rfl rfl rfl (st_fieldAddr (off := 4) Tryd.underlying33 rfl rfl ti31 rfl) ?_
      refine WL_val rfl rfl rfl (st_load ⟨_, Tryd.underlying31, rfl⟩ rfl (hb5.cell 4 rfl)) ?_
      refine WL_val rfl rfl rfl (st_len Tryd.underlying31 rfl) ?_
      refine WL_val rfl rfl rfl (st_mv (v := (.int .i64 0)) rfl) ?_
      refine WL_nil ?_
      refine W_block ?_
      refine W_loop [22, 2, 6] [2, 6, 8, 9, 10, 22, 23, 24, 25, 26, 27, 28, 29, 30, 31, 32, 33, 34, 35, 36, 37] (fun m vs w1 => ∃ j c2 d2 : Nat, j + m = p.ways.length ∧ vs = [.int .i64 (j : Int), .int .i64 (c2 : Int), .int .i64 (d2 : Int)] ∧ c2 + cntW (p.ways.drop j) = c + p.cnt ∧ max d2 (depW (p.ways.drop j)) = depW p.ways ∧ d2 ≤ c2 ∧ Ext w5 w1) ?_ ?_
      · have := p.cnt_eq
        exact ⟨p.ways.length, 0, c + 1, 0, by omega, rfl, by simp; omega, by simp, by omega, Ext.refl _⟩
      · intro m2 vs w8 u hI
        obtain ⟨j, c2, d2, hj, rfl, hcnt2, hdep2, hdc2, hx2⟩ := hI
        have hps1 := hps1.ext hx2
        have hpw := hpw.ext hx2
        have hb5 := hb5.ext hx2
        have hx0 := hx0.ext hx2
        refine W_seq ?_
        refine W_region ?_
        refine WL_val rfl rfl rfl (st_lss rfl rfl) ?_
        refine WL_nil ?_
        refine W_seq ?_
        refine W_cond rfl (fun h23 => ?_) (fun h23 => ?_)
        · have g23 := of_decide_eq_true h23
          refine W_skip ?_
          refine W_seq ?_
          refine W_block ?_
          refine W_seq ?_
          have hj' : j < p.ways.length := by omega
          obtain ⟨wb, wo, v, hwD, hwa, hwc, hwv⟩ := hpw.at hj'
          have hdr2 := drop_at hj'
          have hle2 := cntW_drop p.ways j
          generalize p.ways[j] = q at hwc hwv hdr2
          rw [hdr2] at hcnt2 hdep2 hle2
          simp only [cntW, depW] at hcnt2 hdep2 hle2
          obtain ⟨va, vcp, rfl, hvl⟩ := hwv.form
          refine W_region ?_
          refine WL_val rfl rfl rfl (st_indexAddr Tryd.underlying31 ti22 rfl hwa rfl (by omega)) ?_
          refine WL_val rfl rfl rfl (st_load ⟨_, Tryd.underlying22, rfl⟩ rfl hwc) ?_
          refine WL_val rfl rfl rfl (st_as (v := .slice _ _ _) rfl) ?_
          refine WL_nil ?_
          refine W_seq ?_
          refine W_region ?_
          refine WL_val rfl rfl rfl (st_mv (v := .slice _ _ _) rfl) ?_
          refine WL_call rfl rfl rfl (ih q (by have := p.cnt_eq; omega) (by have := p.cnt_eq; omega) D _ _ hwv) (ent_go rfl) ?_
          rintro _ w9 ⟨rfl, hx10⟩
          replace hps1 := hps1.ext hx10
          replace hx0 := hx0.ext hx10
          replace hpw := hpw.ext hx10
          replace hb5 := hb5.ext hx10
          replace hx2 := hx2.ext hx10
          refine WL_val rfl rfl rfl (st_mv (v := .tuple _) rfl) ?_
          refine WL_val rfl rfl rfl (st_extract rfl rfl) ?_
          refine WL_val rfl rfl rfl (st_extract rfl rfl) ?_
          refine WL_val rfl rfl rfl (st_as (v := .int _ _) rfl) ?_
          refine WL_val rfl rfl rfl (st_as (v := .int _ _) rfl) ?_
          refine WL_nil ?_
          refine W_region ?_
          refine WL_val rfl rfl rfl (st_mv (v := .int _ _) rfl) ?_
          refine WL_val rfl rfl rfl (st_mv (v := .int _ _) rfl) ?_
          refine WL_val rfl rfl rfl (st_add rfl rfl (by omega) (by omega)) ?_
          refine WL_val rfl rfl rfl (st_mv (v := .int _ _) rfl) ?_
          refine WL_val rfl rfl rfl (st_mv (v := .int _ _) rfl) ?_
          refine WL_val rfl rfl rfl (st_max rfl rfl) ?_
          refine WL_val rfl rfl rfl (st_as (v := .int _ _) rfl) ?_
          refine WL_val rfl rfl rfl (st_as (v := .int _ _) rfl) ?_
          refine WL_nil ?_
          refine W_region ?_
          refine WL_val rfl rfl rfl (st_add rfl rfl (by omega) (by omega)) ?_
          refine WL_val rfl rfl rfl (st_mv (v := .int _ _) rfl) ?_
          refine WL_nil ?_
          refine rnd_end ?_ (m2 - 1) ?_ ?_
          · repeat (first | exact agree_in rfl rfl (agree_refl _ _) | exact agree_refl _ _ | refine agree_in rfl rfl ?_ | refine agree_upd rfl ?_)
          · omega
          · exact ⟨j + 1, c2 + cntP q, max d2 (depP q), by omega, vec3 rfl (vint (by omega)) (vint (int_max rfl)), by omega, by omega, by have := depP_le q; omega, hx2⟩
        · have g23 := of_decide_eq_false h23
          rw [List.drop_eq_nil_of_le (show p.ways.length ≤ j from by omega)] at hcnt2 hdep2
          simp only [cntW, depW] at hcnt2 hdep2
          refine W_exit ?_
          refine W_seq ?_
          refine W_seq ?_
          refine W_region ?_
          refine WL_val rfl rfl rfl (st_fieldAddr (off := 0) Tryd.underlying33 rfl rfl ti3 rfl) ?_
          refine WL_val rfl rfl rfl (st_load ⟨_, Tryd.underlying3, rfl⟩ rfl (hb5.cell 0 rfl)) ?_
          refine WL_val rfl rfl rfl (st_eql rfl rfl) ?_
          refine WL_nil ?_
          refine W_cond rfl (fun h40 => ?_) (fun h40 => ?_)
          · have g40 := of_decide_eq_true h40
            refine W_region ?_
            refine WL_val rfl rfl rfl (st_mv (v := .int _ _) rfl) ?_
            refine WL_val rfl rfl rfl (st_add rfl rfl (by omega) (by omega)) ?_
            refine WL_val rfl rfl rfl (st_as (v := .int _ _) rfl) ?_
            refine WL_nil ?_
            refine W_region ?_
            refine WL_val rfl rfl rfl (st_mv (v := .int _ _) rfl) ?_
            refine WL_val rfl rfl rfl (st_mv (v := .int _ _) rfl) ?_
            refine WL_val rfl rfl rfl (st_max rfl rfl) ?_
            refine WL_val rfl rfl rfl (st_as (v := .int _ _) rfl) ?_
            refine WL_nil ?_
            refine W_region ?_
            refine WL_val rfl rfl rfl (st_add rfl rfl (by omega) (by omega)) ?_
            refine WL_val rfl rfl rfl (st_mv (v := .int _ _) rfl) ?_
            refine WL_nil ?_
            refine rnd_end ?_ (m - 1) ?_ ?_
            · repeat (first | exact agree_in rfl rfl (agree_refl _ _) | exact agree_refl _ _ | refine agree_in rfl rfl ?_ | refine agree_upd rfl ?_)
            · omega
            · have hpd := p.dep_eq
              have hple := p.dep_le
              rw [if_pos g40] at hpd
              exact ⟨k + 1, c + p.cnt, max d p.dep, by omega, vec3 rfl (vint (by omega)) (vint (by split <;> omega)), by omega, by omega, by omega, hx0⟩
          · have g40 := of_decide_eq_false h40
            refine W_skip ?_
            refine W_region ?_
            refine WL_val rfl rfl rfl (st_mv (v := .int _ _) rfl) ?_
            refine WL_val rfl rfl rfl (st_mv (v := .int _ _) rfl) ?_
            refine WL_val rfl rfl rfl (st_max rfl rfl) ?_
            refine WL_val rfl rfl rfl (st_as (v := .int _ _) rfl) ?_
            refine WL_nil ?_
            refine W_region ?_
            refine WL_val rfl rfl rfl (st_add rfl rfl (by omega) (by omega)) ?_
            refine WL_val rfl rfl rfl (st_mv (v := .int _ _) rfl) ?_
            refine WL_nil ?_
            refine rnd_end ?_ (m - 1) ?_ ?_
            · repeat (first | exact agree_in rfl rfl (agree_refl _ _) | exact agree_refl _ _ | refine agree_in rfl rfl ?_ | refine agree_upd rfl ?_)
            · omega
            · have hpd := p.dep_eq
              have hple := p.dep_le
              rw [if_neg g40] at hpd
              exact ⟨k + 1, c + p.cnt, max d p.dep, by omega, vec3 rfl (vint (by omega)) (vint (by split <;> omega)), by omega, by omega, by omega, hx0⟩
    · have g14 := of_decide_eq_false h14
      refine W_exit ?_
      refine W_seq ?_
      refine W_region ?_
      refine WL_val rfl rfl rfl (st_mv (v := .int _ _) rfl) ?_
      refine WL_val rfl rfl rfl (st_mv (v := .int _ _) rfl) ?_
      refine WL_val rfl rfl rfl (st_as (v := .int _ _) rfl) ?_
      refine WL_val rfl rfl rfl (st_as (v := .int _ _) rfl) ?_
      refine WL_nil ?_
      refine W_ret ?_
      refine qr2 ?_
      have e0 : ps.drop k = [] := List.drop_eq_nil_of_le (by omega)
      rw [e0] at hcnt hdep
      simp only [cntP, depP] at hcnt hdep
      refine ⟨?_, hx0⟩
      show Value.tuple #[.int .i64 (c : Int), .int .i64 (d : Int)] = _
      rw [show c = cntP ps from by omega, show d = depP ps from by omega]
end Go.Proofs.YtndfhicdabdafaaDoor
