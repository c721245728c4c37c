/- Walks of starsMeet. -/
import Derived.Test.YtndfhicdabdafaaDoorC2
import Derived.Test.YtndfhicdabdafaaDoorC1
namespace Go.Proofs.YtndfhicdabdafaaDoor
open Go Go.RowKit

theorem star_ok (p : Part) (ra wa : Option Addr) (rc wc : Nat) (w : World) :
    Fun Tryd.prog 24 [.agg #[.int .i64 p.kind, .string p.text, .bool p.neg, .slice ra p.ranges.length rc, .slice wa p.ways.length wc]] w (fun r w' => r = .bool (starP p) ∧ Ext w w') := by
  have hx0 := Ext.refl w
  refine fun1 Tryd.func24 rfl (by kernel_rfl) rfl rfl rfl ?_
  refine W_seq ?_
  refine W_region ?_
  refine WL_ef (ef_box (cs := [_, _, _, _, _]) rfl) rfl rfl rfl ?_
  rintro _ w2 ⟨b1, rfl, hl1, hb1, hx3⟩
  replace hx0 := hx0.ext hx3
  refine WL_val rfl rfl rfl (st_as (v := (.bool false)) rfl) ?_
  refine WL_nil ?_
  refine W_seq ?_
  refine W_region ?_
  refine WL_val rfl rfl rfl (st_fieldAddr (off := 0) Tryd.underlying33 rfl rfl ti3 rfl) ?_
  refine WL_val rfl rfl rfl (st_load ⟨_, Tryd.underlying3, rfl⟩ rfl (hb1.cell 0 rfl)) ?_
  refine WL_val rfl rfl rfl (st_eql rfl rfl) ?_
  refine WL_val rfl rfl rfl (st_mv (v := .bool _) rfl) ?_
  refine WL_split 6 rfl (fun h6 => ?_) (fun h6 => ?_)
  · have g6 := of_decide_eq_true h6
    refine WL_pass rfl rfl rfl (congrArg Value.bool h6) rfl rfl ?_
    refine WL_pass rfl rfl rfl (congrArg Value.bool h6) rfl rfl ?_
    refine WL_pass rfl rfl rfl (congrArg Value.bool h6) rfl rfl ?_
    refine WL_val rfl rfl rfl (st_pk_t (v := (.bool true)) (congrArg Value.bool h6) rfl) ?_
    refine WL_val rfl rfl rfl (st_as (v := .bool _) rfl) ?_
    refine WL_nil ?_
    refine W_ret ?_
    refine qr1 ?_
    exact ⟨vbool (by unfold starP; rw [decide_eq_true g6, Bool.true_or]), hx0⟩
  · have g6 := of_decide_eq_false h6
    refine WL_valg rfl rfl rfl (congrArg Value.bool h6) rfl rfl (st_fieldAddr (off := 0) Tryd.underlying33 rfl rfl ti3 rfl) ?_
    refine WL_valg rfl rfl rfl (congrArg Value.bool h6) rfl rfl (st_load ⟨_, Tryd.underlying3, rfl⟩ rfl (hb1.cell 0 rfl)) ?_
    refine WL_valg rfl rfl rfl (congrArg Value.bool h6) rfl rfl (st_eql rfl rfl) ?_
    refine WL_val rfl rfl rfl (st_pk_f (v := .bool _) (congrArg Value.bool h6) rfl) ?_
    refine WL_val rfl rfl rfl (st_as (v := .bool _) rfl) ?_
    refine WL_nil ?_
    refine W_ret ?_
    refine qr1 ?_
    exact ⟨vbool (by unfold starP; rw [decide_eq_false g6, Bool.false_or]), hx0⟩
instance : Inhabited Part := ⟨.mk 0 ⟨#[]⟩ false [] []⟩
def starAt (ps : List Part) (k : Nat) : Bool := if k = 0 then false else starP (ps.getD (k - 1) default)

set_option maxHeartbeats 1000000 in
theorem starsMeet_ok (N : Nat) : ∀ (ps : List Part), cntP ps < N → ∀ (D : Nat → Prop) (v : Value) (w : World), PartsAt D w v ps →
    Fun Tryd.prog 14 [v] w (fun r w' => r = .bool (starsL false ps) ∧ Ext w w') := by
  induction N with
  | zero => intro ps h; omega
  | succ N ih =>
  intro ps hN D v w hps
  obtain ⟨a, cp, rfl, hpl⟩ := hps.form
  have hx0 := Ext.refl w
  refine fun1 Tryd.func14 rfl (by kernel_rfl) rfl rfl rfl ?_
  refine W_seq ?_
  refine W_region ?_
  refine WL_val rfl rfl rfl (st_as (v := (.bool false)) rfl) ?_
  refine WL_nil ?_
  refine W_seq ?_
  refine W_region ?_
  refine WL_val rfl rfl rfl (st_as (v := .func (.func 24) #[] #[]) rfl) ?_
  refine WL_nil ?_
  refine W_seq ?_
  refine W_seq ?_
  refine W_region ?_
  refine WL_val rfl rfl rfl (st_mv (v := .slice _ _ _) rfl) ?_
  refine WL_val rfl rfl rfl (st_len Tryd.underlying22 rfl) ?_
  refine WL_val rfl rfl rfl (st_mv (v := (.int .i64 0)) rfl) ?_
  refine WL_nil ?_
  refine W_block ?_
  refine W_loop [10] [2, 4, 5, 7, 10, 11, 12, 13, 14, 15, 16, 17, 18, 19, 20, 21, 22, 23, 24, 25, 26, 27, 28, 29, 30, 31, 32, 33, 34, 35, 36, 37, 38, 39, 40, 41] (fun m vs w1 => ∃ k : Nat, k + m = ps.length ∧ vs = [.int .i64 (k : Int)] ∧ starsL false ps = starsL (starAt ps k) (ps.drop k) ∧ Ext w w1) ?_ ?_
  · exact ⟨ps.length, 0, by omega, rfl, rfl, hx0⟩
  · intro m vs w1 u hI
    obtain ⟨k, hk, rfl, hinv, hx0⟩ := hI
    have hps1 := hps.ext hx0
    refine W_seq ?_
    refine W_region ?_
    refine WL_val rfl rfl rfl (st_lss rfl rfl) ?_
    refine WL_nil ?_
    refine W_seq ?_
    refine W_cond rfl (fun h11 => ?_) (fun h11 => ?_)
    · have g11 := of_decide_eq_true h11
      refine W_skip ?_
      refine W_seq ?_
      refine W_block ?_
      refine W_seq ?_
      have hk' : k < ps.length := by omega
      obtain ⟨pb, po, rv, wv, hpD, hpa, hpc, hpr, hpw⟩ := hps1.at hk'
      have hdr := drop_at hk'
      have hg := getD_at hk' default
      generalize ps[k] = p at hpc hpr hpw hdr hg
      rw [hdr] at hinv
      have hcnt : p.cnt ≤ cntP ps := by have := cntP_drop ps k; rw [hdr] at this; simp only [cntP] at this; omega
      obtain ⟨wa, wcp, rfl, hwl⟩ := hpw.form
      obtain ⟨ra, rcp, rfl, hrl⟩ := hpr.form
      refine W_region ?_
      refine WL_val rfl rfl rfl (st_mv (v := .int _ _) rfl) ?_
      refine WL_val rfl rfl rfl (st_indexAddr Tryd.underlying22 ti33 rfl hpa rfl (by omega)) ?_
      refine WL_val rfl rfl rfl (st_loada ⟨_, Tryd.underlying33, rfl⟩ ti33 rfl hpc rfl) ?_
      refine WL_ef (ef_alloc ti33) rfl rfl rfl ?_
      rintro _ w3 ⟨b2, rfl, hl5, hb5, hx4⟩
      refine WL_val rfl rfl rfl (st_as (v := .int _ _) rfl) ?_
      refine WL_su (su_storea ti33 rfl hb5 rfl rfl (Nat.le_of_ble_eq_true rfl) rfl) rfl rfl ?_
      rintro w5 ⟨hnb, hf6⟩
      have hx7 : Ext w1 w5 := hx4.trans_new hf6 (fun _ h => by subst h; exact hl5)
      clear hb5
      have hb5 : Blk _ _ _ [_, _, _, _, _] := hnb
      clear hnb
      replace hps1 := hps1.ext hx7
      replace hx0 := hx0.ext hx7
      replace hpw := hpw.ext hx7
      replace hpr := hpr.ext hx7
      refine WL_nil ?_
      refine W_seq ?_
      refine W_seq ?_
      refine W_region ?_
      refine WL_val rfl rfl rfl (st_mv (v := .int _ _) rfl) ?_
      refine WL_val rfl rfl rfl (st_gtr rfl rfl) ?_
      refine WL_val rfl rfl rfl (st_mv (v := .bool _) rfl) ?_
      refine WL_split 17 rfl (fun h17 => ?_) (fun h17 => ?_)
      · have g17 := of_decide_eq_true h17
        refine WL_valg rfl rfl rfl (congrArg Value.bool h17) rfl rfl (st_mv (v := .func _ _ _) rfl) ?_
        refine WL_valg rfl rfl rfl (congrArg Value.bool h17) rfl rfl (st_loada ⟨_, Tryd.underlying33, rfl⟩ ti33 rfl hb5.cells rfl) ?_
        refine WL_callg rfl rfl rfl (congrArg Value.bool h17) rfl rfl (star_ok p ra wa rcp wcp _) (ent_val rfl rfl) ?_
        rintro _ w8 ⟨rfl, hx9⟩
        replace hps1 := hps1.ext hx9
        replace hx0 := hx0.ext hx9
        replace hpw := hpw.ext hx9
        replace hpr := hpr.ext hx9
        replace hb5 := hb5.ext hx9
        refine WL_val rfl rfl rfl (st_pk_t (v := .bool _) (congrArg Value.bool h17) rfl) ?_
        refine WL_val rfl rfl rfl (st_mv (v := .bool _) rfl) ?_
        refine WL_split 22 rfl (fun h22 => ?_) (fun h22 => ?_)
        · have hk1 : k - 1 < ps.length := by omega
          have hg2 := getD_at hk1 default
          have hq := PartsAt.at hps1 hk1
          generalize ps[k - 1] = p2 at hq hg2
          obtain ⟨pb2, po2, rv2, wv2, hpD2, hpa2, hpc2, hpr2, hpw2⟩ := hq
          obtain ⟨wa2, wcp2, rfl, hwl2⟩ := hpw2.form
          obtain ⟨ra2, rcp2, rfl, hrl2⟩ := hpr2.form
          have hsa : starAt ps k = starP p2 := by unfold starAt; rw [if_neg (by omega), hg2]
          refine WL_valg rfl rfl rfl (congrArg Value.bool h22) rfl rfl (st_mv (v := .func _ _ _) rfl) ?_
          refine WL_valg rfl rfl rfl (congrArg Value.bool h22) rfl rfl (st_mv (v := .slice _ _ _) rfl) ?_
          refine WL_valg rfl rfl rfl (congrArg Value.bool h22) rfl rfl (st_mv (v := .int _ _) rfl) ?_
          refine WL_valg rfl rfl rfl (congrArg Value.bool h22) rfl rfl (st_sub rfl rfl (by omega) (by omega)) ?_
          refine WL_valg rfl rfl rfl (congrArg Value.bool h22) rfl rfl (st_indexAddr (i := k - 1) Tryd.underlying22 ti33 rfl hpa2 (vint (by omega)) (by omega)) ?_
          refine WL_valg rfl rfl rfl (congrArg Value.bool h22) rfl rfl (st_loada ⟨_, Tryd.underlying33, rfl⟩ ti33 rfl hpc2 rfl) ?_
          refine WL_callg rfl rfl rfl (congrArg Value.bool h22) rfl rfl (star_ok p2 ra2 wa2 rcp2 wcp2 _) (ent_val rfl rfl) ?_
          rintro _ w10 ⟨rfl, hx11⟩
          replace hps1 := hps1.ext hx11
          replace hx0 := hx0.ext hx11
          replace hpw := hpw.ext hx11
          replace hpr := hpr.ext hx11
          replace hb5 := hb5.ext hx11
          refine WL_val rfl rfl rfl (st_pk_t (v := .bool _) (congrArg Value.bool h22) rfl) ?_
          refine WL_nil ?_
          refine W_cond rfl (fun h30 => ?_) (fun h30 => ?_)
          · have g30 := h30
            refine W_seq ?_
            refine W_region ?_
            refine WL_val rfl rfl rfl (st_as (v := (.bool true)) rfl) ?_
            refine WL_nil ?_
            refine W_ret ?_
            refine qr1 ?_
            exact ⟨vbool (by rw [hinv, starsL_cons, if_pos (by rw [hsa]; simp [h22, h30])]), hx0⟩
          · have g30 := h30
            refine W_skip ?_
            refine W_seq ?_
            have hnot : ¬ ((starAt ps k && starP p) = true) := by rw [hsa]; simp [h30]
            refine W_region ?_
            refine WL_val rfl rfl rfl (st_fieldAddr (off := 4) Tryd.underlying33 rfl rfl ti31 rfl) ?_
            refine WL_val rfl rfl rfl (st_load ⟨_, Tryd.underlying31, rfl⟩ rfl (hb5.cell 4 rfl)) ?_
            refine WL_val rfl rfl rfl (st_len Tryd.underlying31 rfl) ?_
            refine WL_val rfl rfl rfl (st_mv (v := (.int .i64 0)) rfl) ?_
            refine WL_nil ?_
            refine W_block ?_
            refine W_loop [34] [2, 7, 34, 35, 36, 37, 38, 39, 40] (fun m vs w1 => ∃ j : Nat, j + m = p.ways.length ∧ vs = [.int .i64 (j : Int)] ∧ starsW p.ways = starsW (p.ways.drop j) ∧ Ext w10 w1) ?_ ?_
            · exact ⟨p.ways.length, 0, by omega, rfl, rfl, Ext.refl _⟩
            · intro m2 vs w12 u hI
              obtain ⟨j, hj, rfl, hinv2, hx2⟩ := hI
              have hps1 := hps1.ext hx2
              have hpw := hpw.ext hx2
              have hx0 := hx0.ext hx2
              refine W_seq ?_
              refine W_region ?_
              refine WL_val rfl rfl rfl (st_lss rfl rfl) ?_
              refine WL_nil ?_
              refine W_seq ?_
              refine W_cond rfl (fun h35 => ?_) (fun h35 => ?_)
              · have g35 := of_decide_eq_true h35
                refine W_skip ?_
                refine W_seq ?_
                refine W_block ?_
                refine W_seq ?_
                have hj' : j < p.ways.length := by omega
                obtain ⟨wb, wo, v, hwD, hwa, hwc, hwv⟩ := hpw.at hj'
                have hdr2 := drop_at hj'
                have hle2 := cntW_drop p.ways j
                generalize p.ways[j] = q at hwc hwv hdr2
                rw [hdr2] at hle2
                simp only [cntW] at hle2
                obtain ⟨va, vcp, rfl, hvl⟩ := hwv.form
                refine W_region ?_
                refine WL_val rfl rfl rfl (st_indexAddr Tryd.underlying31 ti22 rfl hwa rfl (by omega)) ?_
                refine WL_val rfl rfl rfl (st_load ⟨_, Tryd.underlying22, rfl⟩ rfl hwc) ?_
                refine WL_val rfl rfl rfl (st_as (v := .slice _ _ _) rfl) ?_
                refine WL_nil ?_
                refine W_seq ?_
                refine W_region ?_
                refine WL_val rfl rfl rfl (st_mv (v := .slice _ _ _) rfl) ?_
                refine WL_call rfl rfl rfl (ih q (by have := p.cnt_eq; omega) D _ _ hwv) (ent_go rfl) ?_
                rintro _ w13 ⟨rfl, hx14⟩
                replace hps1 := hps1.ext hx14
                replace hx0 := hx0.ext hx14
                replace hpw := hpw.ext hx14
                replace hx2 := hx2.ext hx14
                refine WL_nil ?_
                refine W_cond rfl (fun h39 => ?_) (fun h39 => ?_)
                · have g39 := h39
                  refine W_seq ?_
                  refine W_region ?_
                  refine WL_val rfl rfl rfl (st_as (v := (.bool true)) rfl) ?_
                  refine WL_nil ?_
                  refine W_ret ?_
                  refine qr1 ?_
                  have hq : starsW p.ways = true := by rw [hinv2, hdr2, starsW_cons, if_pos h39]
                  exact ⟨vbool (by rw [hinv, starsL_cons, if_neg hnot, p.starsIn_eq, hq, if_pos rfl]), hx0⟩
                · have g39 := h39
                  refine W_skip ?_
                  refine W_region ?_
                  refine WL_val rfl rfl rfl (st_add rfl rfl (by omega) (by omega)) ?_
                  refine WL_val rfl rfl rfl (st_mv (v := .int _ _) rfl) ?_
                  refine WL_nil ?_
                  refine rnd_end ?_ (m2 - 1) ?_ ?_
                  · repeat (first | exact agree_in rfl rfl (agree_refl _ _) | exact agree_refl _ _ | refine agree_in rfl rfl ?_ | refine agree_upd rfl ?_)
                  · omega
                  · refine ⟨j + 1, by omega, vec1 rfl, ?_, hx2⟩
                    rw [hinv2, hdr2, starsW_cons, if_neg (by rw [h39]; simp)]
              · have g35 := of_decide_eq_false h35
                have hchk : starsW p.ways = false := by rw [hinv2, List.drop_eq_nil_of_le (show p.ways.length ≤ j from by omega), starsW]
                refine W_exit ?_
                refine W_region ?_
                refine WL_val rfl rfl rfl (st_add rfl rfl (by omega) (by omega)) ?_
                refine WL_val rfl rfl rfl (st_mv (v := .int _ _) rfl) ?_
                refine WL_nil ?_
                refine rnd_end ?_ (m - 1) ?_ ?_
                · repeat (first | exact agree_in rfl rfl (agree_refl _ _) | exact agree_refl _ _ | refine agree_in rfl rfl ?_ | refine agree_upd rfl ?_)
                · omega
                · refine ⟨k + 1, by omega, vec1 rfl, ?_, hx0⟩
                  rw [hinv, starsL_cons, if_neg hnot, if_neg (by rw [p.starsIn_eq, hchk]; simp)]
                  congr 1
                  unfold starAt
                  rw [if_neg (by omega), Nat.add_sub_cancel, hg]
        · have g22 := h22
          refine WL_pass rfl rfl rfl (congrArg Value.bool h22) rfl rfl ?_
          refine WL_pass rfl rfl rfl (congrArg Value.bool h22) rfl rfl ?_
          refine WL_pass rfl rfl rfl (congrArg Value.bool h22) rfl rfl ?_
          refine WL_pass rfl rfl rfl (congrArg Value.bool h22) rfl rfl ?_
          refine WL_pass rfl rfl rfl (congrArg Value.bool h22) rfl rfl ?_
          refine WL_pass rfl rfl rfl (congrArg Value.bool h22) rfl rfl ?_
          refine WL_pass rfl rfl rfl (congrArg Value.bool h22) rfl rfl ?_
          refine WL_val rfl rfl rfl (st_pk_f (v := (.bool false)) (congrArg Value.bool h22) rfl) ?_
          refine WL_nil ?_
          refine W_no rfl ?_
          refine W_skip ?_
          refine W_seq ?_
          have hnot : ¬ ((starAt ps k && starP p) = true) := by simp [h22]
          refine W_region ?_
          refine WL_val rfl rfl rfl (st_fieldAddr (off := 4) Tryd.underlying33 rfl rfl ti31 rfl) ?_
          refine WL_val rfl rfl rfl (st_load ⟨_, Tryd.underlying31, rfl⟩ rfl (hb5.cell 4 rfl)) ?_
          refine WL_val rfl rfl rfl (st_len Tryd.underlying31 rfl) ?_
          refine WL_val rfl rfl rfl (st_mv (v := (.int .i64 0)) rfl) ?_
          refine WL_nil ?_
          refine W_block ?_
          refine W_loop [34] [2, 7, 34, 35, 36, 37, 38, 39, 40] (fun m vs w1 => ∃ j : Nat, j + m = p.ways.length ∧ vs = [.int .i64 (j : Int)] ∧ starsW p.ways = starsW (p.ways.drop j) ∧ Ext w8 w1) ?_ ?_
          · exact ⟨p.ways.length, 0, by omega, rfl, rfl, Ext.refl _⟩
          · intro m2 vs w15 u hI
            obtain ⟨j, hj, rfl, hinv2, hx2⟩ := hI
            have hps1 := hps1.ext hx2
            have hpw := hpw.ext hx2
            have hx0 := hx0.ext hx2
            refine W_seq ?_
            refine W_region ?_
            refine WL_val rfl rfl rfl (st_lss rfl rfl) ?_
            refine WL_nil ?_
            refine W_seq ?_
            refine W_cond rfl (fun h35 => ?_) (fun h35 => ?_)
            · have g35 := of_decide_eq_true h35
              refine W_skip ?_
              refine W_seq ?_
              refine W_block ?_
              refine W_seq ?_
              have hj' : j < p.ways.length := by omega
              obtain ⟨wb, wo, v, hwD, hwa, hwc, hwv⟩ := hpw.at hj'
              have hdr2 := drop_at hj'
              have hle2 := cntW_drop p.ways j
              generalize p.ways[j] = q at hwc hwv hdr2
              rw [hdr2] at hle2
              simp only [cntW] at hle2
              obtain ⟨va, vcp, rfl, hvl⟩ := hwv.form
              refine W_region ?_
              refine WL_val rfl rfl rfl (st_indexAddr Tryd.underlying31 ti22 rfl hwa rfl (by omega)) ?_
              refine WL_val rfl rfl rfl (st_load ⟨_, Tryd.underlying22, rfl⟩ rfl hwc) ?_
              refine WL_val rfl rfl rfl (st_as (v := .slice _ _ _) rfl) ?_
              refine WL_nil ?_
              refine W_seq ?_
              refine W_region ?_
              refine WL_val rfl rfl rfl (st_mv (v := .slice _ _ _) rfl) ?_
              refine WL_call rfl rfl rfl (ih q (by have := p.cnt_eq; omega) D _ _ hwv) (ent_go rfl) ?_
              rintro _ w16 ⟨rfl, hx17⟩
              replace hps1 := hps1.ext hx17
              replace hx0 := hx0.ext hx17
              replace hpw := hpw.ext hx17
              replace hx2 := hx2.ext hx17
              refine WL_nil ?_
              refine W_cond rfl (fun h39 => ?_) (fun h39 => ?_)
              · have g39 := h39
                refine W_seq ?_
                refine W_region ?_
                refine WL_val rfl rfl rfl (st_as (v := (.bool true)) rfl) ?_
                refine WL_nil ?_
                refine W_ret ?_
                refine qr1 ?_
                have hq : starsW p.ways = true := by rw [hinv2, hdr2, starsW_cons, if_pos h39]
                exact ⟨vbool (by rw [hinv, starsL_cons, if_neg hnot, p.starsIn_eq, hq, if_pos rfl]), hx0⟩
              · have g39 := h39
                refine W_skip ?_
                refine W_region ?_
                refine WL_val rfl rfl rfl (st_add rfl rfl (by omega) (by omega)) ?_
                refine WL_val rfl rfl rfl (st_mv (v := .int _ _) rfl) ?_
                refine WL_nil ?_
                refine rnd_end ?_ (m2 - 1) ?_ ?_
                · repeat (first | exact agree_in rfl rfl (agree_refl _ _) | exact agree_refl _ _ | refine agree_in rfl rfl ?_ | refine agree_upd rfl ?_)
                · omega
                · refine ⟨j + 1, by omega, vec1 rfl, ?_, hx2⟩
                  rw [hinv2, hdr2, starsW_cons, if_neg (by rw [h39]; simp)]
            · have g35 := of_decide_eq_false h35
              have hchk : starsW p.ways = false := by rw [hinv2, List.drop_eq_nil_of_le (show p.ways.length ≤ j from by omega), starsW]
              refine W_exit ?_
              refine W_region ?_
              refine WL_val rfl rfl rfl (st_add rfl rfl (by omega) (by omega)) ?_
              refine WL_val rfl rfl rfl (st_mv (v := .int _ _) rfl) ?_
              refine WL_nil ?_
              refine rnd_end ?_ (m - 1) ?_ ?_
              · repeat (first | exact agree_in rfl rfl (agree_refl _ _) | exact agree_refl _ _ | refine agree_in rfl rfl ?_ | refine agree_upd rfl ?_)
              · omega
              · refine ⟨k + 1, by omega, vec1 rfl, ?_, hx0⟩
                rw [hinv, starsL_cons, if_neg hnot, if_neg (by rw [p.starsIn_eq, hchk]; simp)]
                congr 1
                unfold starAt
                rw [if_neg (by omega), Nat.add_sub_cancel, hg]
      · have g17 := of_decide_eq_false h17
        refine WL_pass rfl rfl rfl (congrArg Value.bool h17) rfl rfl ?_
        refine WL_pass rfl rfl rfl (congrArg Value.bool h17) rfl rfl ?_
        refine WL_pass rfl rfl rfl (congrArg Value.bool h17) rfl rfl ?_
        refine WL_val rfl rfl rfl (st_pk_f (v := (.bool false)) (congrArg Value.bool h17) rfl) ?_
        refine WL_val rfl rfl rfl (st_mv (v := .bool _) rfl) ?_
        refine WL_pass rfl rfl rfl rfl rfl rfl ?_
        refine WL_pass rfl rfl rfl rfl rfl rfl ?_
        refine WL_pass rfl rfl rfl rfl rfl rfl ?_
        refine WL_pass rfl rfl rfl rfl rfl rfl ?_
        refine WL_pass rfl rfl rfl rfl rfl rfl ?_
        refine WL_pass rfl rfl rfl rfl rfl rfl ?_
        refine WL_pass rfl rfl rfl rfl rfl rfl ?_
        refine WL_val rfl rfl rfl (st_pk_f (v := (.bool false)) rfl rfl) ?_
        refine WL_nil ?_
        refine W_no rfl ?_
        refine W_skip ?_
        refine W_seq ?_
        have hnot : ¬ ((starAt ps k && starP p) = true) := by unfold starAt; rw [if_pos (by omega)]; simp
        refine W_region ?_
        refine WL_val rfl rfl rfl (st_fieldAddr (off := 4) Tryd.underlying33 rfl rfl ti31 rfl) ?_
        refine WL_val rfl rfl rfl (st_load ⟨_, Tryd.underlying31, rfl⟩ rfl (hb5.cell 4 rfl)) ?_
        refine WL_val rfl rfl rfl (st_len Tryd.underlying31 rfl) ?_
        refine WL_val rfl rfl rfl (st_mv (v := (.int .i64 0)) rfl) ?_
        refine WL_nil ?_
        refine W_block ?_
        refine W_loop [34] [2, 7, 34, 35, 36, 37, 38, 39, 40] (fun m vs w1 => ∃ j : Nat, j + m = p.ways.length ∧ vs = [.int .i64 (j : Int)] ∧ starsW p.ways = starsW (p.ways.drop j) ∧ Ext w5 w1) ?_ ?_
        · exact ⟨p.ways.length, 0, by omega, rfl, rfl, Ext.refl _⟩
        · intro m2 vs w18 u hI
          obtain ⟨j, hj, rfl, hinv2, hx2⟩ := hI
          have hps1 := hps1.ext hx2
          have hpw := hpw.ext hx2
          have hx0 := hx0.ext hx2
          refine W_seq ?_
          refine W_region ?_
          refine WL_val rfl rfl rfl (st_lss rfl rfl) ?_
          refine WL_nil ?_
          refine W_seq ?_
          refine W_cond rfl (fun h35 => ?_) (fun h35 => ?_)
          · have g35 := of_decide_eq_true h35
            refine W_skip ?_
            refine W_seq ?_
            refine W_block ?_
            refine W_seq ?_
            have hj' : j < p.ways.length := by omega
            obtain ⟨wb, wo, v, hwD, hwa, hwc, hwv⟩ := hpw.at hj'
            have hdr2 := drop_at hj'
            have hle2 := cntW_drop p.ways j
            generalize p.ways[j] = q at hwc hwv hdr2
            rw [hdr2] at hle2
            simp only [cntW] at hle2
            obtain ⟨va, vcp, rfl, hvl⟩ := hwv.form
            refine W_region ?_
            refine WL_val rfl rfl rfl (st_indexAddr Tryd.underlying31 ti22 rfl hwa rfl (by omega)) ?_
            refine WL_val rfl rfl rfl (st_load ⟨_, Tryd.underlying22, rfl⟩ rfl hwc) ?_
            refine WL_val rfl rfl rfl (st_as (v := .slice _ _ _) rfl) ?_
            refine WL_nil ?_
            refine W_seq ?_
            refine W_region ?_
            refine WL_val rfl rfl rfl (st_mv (v := .slice _ _ _) rfl) ?_
            refine WL_call rfl rfl rfl (ih q (by have := p.cnt_eq; omega) D _ _ hwv) (ent_go rfl) ?_
            rintro _ w19 ⟨rfl, hx20⟩
            replace hps1 := hps1.ext hx20
            replace hx0 := hx0.ext hx20
            replace hpw := hpw.ext hx20
            replace hx2 := hx2.ext hx20
            refine WL_nil ?_
            refine W_cond rfl (fun h39 => ?_) (fun h39 => ?_)
            · have g39 := h39
              refine W_seq ?_
              refine W_region ?_
              refine WL_val rfl rfl rfl (st_as (v := (.bool true)) rfl) ?_
              refine WL_nil ?_
              refine W_ret ?_
              refine qr1 ?_
              have hq : starsW p.ways = true := by rw [hinv2, hdr2, starsW_cons, if_pos h39]
              exact ⟨vbool (by rw [hinv, starsL_cons, if_neg hnot, p.starsIn_eq, hq, if_pos rfl]), hx0⟩
            · have g39 := h39
              refine W_skip ?_
              refine W_region ?_
              refine WL_val rfl rfl rfl (st_add rfl rfl (by omega) (by omega)) ?_
              refine WL_val rfl rfl rfl (st_mv (v := .int _ _) rfl) ?_
              refine WL_nil ?_
              refine rnd_end ?_ (m2 - 1) ?_ ?_
              · repeat (first | exact agree_in rfl rfl (agree_refl _ _) | exact agree_refl _ _ | refine agree_in rfl rfl ?_ | refine agree_upd rfl ?_)
              · omega
              · refine ⟨j + 1, by omega, vec1 rfl, ?_, hx2⟩
                rw [hinv2, hdr2, starsW_cons, if_neg (by rw [h39]; simp)]
          · have g35 := of_decide_eq_false h35
            have hchk : starsW p.ways = false := by rw [hinv2, List.drop_eq_nil_of_le (show p.ways.length ≤ j from by omega), starsW]
            refine W_exit ?_
            refine W_region ?_
            refine WL_val rfl rfl rfl (st_add rfl rfl (by omega) (by omega)) ?_
            refine WL_val rfl rfl rfl (st_mv (v := .int _ _) rfl) ?_
            refine WL_nil ?_
            refine rnd_end ?_ (m - 1) ?_ ?_
            · repeat (first | exact agree_in rfl rfl (agree_refl _ _) | exact agree_refl _ _ | refine agree_in rfl rfl ?_ | refine agree_upd rfl ?_)
            · omega
            · refine ⟨k + 1, by omega, vec1 rfl, ?_, hx0⟩
              rw [hinv, starsL_cons, if_neg hnot, if_neg (by rw [p.starsIn_eq, hchk]; simp)]
              congr 1
              unfold starAt
              rw [if_neg (by omega), Nat.add_sub_cancel, hg]
    · have g11 := of_decide_eq_false h11
      refine W_exit ?_
      refine W_seq ?_
      refine W_region ?_
      refine WL_val rfl rfl rfl (st_as (v := (.bool false)) rfl) ?_
      refine WL_nil ?_
      refine W_ret ?_
      refine qr1 ?_
      rw [List.drop_eq_nil_of_le (by omega)] at hinv
      exact ⟨vbool (by rw [hinv, starsL]), hx0⟩
end Go.Proofs.YtndfhicdabdafaaDoor
