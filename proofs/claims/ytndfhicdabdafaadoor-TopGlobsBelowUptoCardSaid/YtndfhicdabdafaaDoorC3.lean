/- Walks of rangesForm, checkParts and starsMeet. -/
import Derived.Test.YtndfhicdabdafaaDoorC2
import Derived.Test.YtndfhicdabdafaaDoorC1
namespace Go.Proofs.YtndfhicdabdafaaDoor
open Go Go.RowKit

def prevOf (rs : List (Int × Int)) (k : Nat) : Option Int := if k = 0 then none else some (rs.getD (k - 1) (0, 0)).2

theorem prevOf_pos {rs : List (Int × Int)} {k : Nat} (h : 0 < k) : prevOf rs k = some (rs.getD (k - 1) (0, 0)).2 := if_neg (by omega)

set_option maxHeartbeats 1000000 in
theorem rangesForm_ok (rs : List (Int × Int)) (D : Nat → Prop) (v : Value) (w : World) (hrs : RangesAt D w v rs) :
    Fun Tryd.prog 23 [v] w (fun r w' => r = .int .i64 (rangesF none rs) ∧ Ext w w') := by
  obtain ⟨a, cp, rfl, hrl⟩ := hrs.form
  refine fun1 Tryd.func23 rfl (by kernel_rfl) rfl rfl rfl ?_
  refine W_seq ?_
  refine W_region ?_
  refine WL_val rfl rfl rfl (st_as (v := (.int .i64 0)) rfl) ?_
  refine WL_nil ?_
  refine W_seq ?_
  refine W_seq ?_
  refine W_region ?_
  refine WL_val rfl rfl rfl (st_mv (v := .slice _ _ _) rfl) ?_
  refine WL_val rfl rfl rfl (st_len Tryd.underlying30 rfl) ?_
  refine WL_val rfl rfl rfl (st_mv (v := (.int .i64 0)) rfl) ?_
  refine WL_nil ?_
  refine W_block ?_
  refine W_loop [9] [2, 3, 4, 5, 6, 9, 10, 11, 12, 13, 14, 15, 16, 17, 18, 19, 20, 21, 22, 23, 24, 25, 26, 27, 28, 29, 30, 31, 32, 33, 34, 35, 36, 37, 38, 39, 40, 41, 42, 43, 44, 45, 46, 47, 48, 49, 50, 51, 52, 53, 54, 55, 56, 57, 58] (fun m vs w1 => ∃ k : Nat, k + m = rs.length ∧ vs = [.int .i64 (k : Int)] ∧ rangesF none rs = rangesF (prevOf rs k) (rs.drop k) ∧ (0 < k → 1 ≤ (rs.getD (k - 1) (0, 0)).2 ∧ (rs.getD (k - 1) (0, 0)).2 ≤ 255) ∧ Ext w w1) ?_ ?_
  · exact ⟨rs.length, 0, by omega, rfl, rfl, by omega, Ext.refl _⟩
  · intro m vs w1 u hI
    obtain ⟨k, hk, rfl, hinv, hprev, hx0⟩ := hI
    have hrs1 := hrs.ext hx0
    refine W_seq ?_
    refine W_region ?_
    refine WL_val rfl rfl rfl (st_lss rfl rfl) ?_
    refine WL_nil ?_
    refine W_seq ?_
    refine W_cond rfl (fun h10 => ?_) (fun h10 => ?_)
    · have g10 := of_decide_eq_true h10
      refine W_skip ?_
      refine W_seq ?_
      refine W_block ?_
      refine W_seq ?_
      have hk' : k < rs.length := by omega
      obtain ⟨rb, ro, hD, hra, hrc⟩ := hrs1.at hk'
      have hdr := drop_at hk'
      have hg := getD_at hk' (0, 0)
      generalize rs[k] = r at hrc hdr hg
      refine W_region ?_
      refine WL_val rfl rfl rfl (st_mv (v := .int _ _) rfl) ?_
      refine WL_val rfl rfl rfl (st_indexAddr Tryd.underlying30 ti44 rfl hra rfl (by omega)) ?_
      refine WL_val rfl rfl rfl (st_loada ⟨_, Tryd.underlying44, rfl⟩ ti44 rfl hrc rfl) ?_
      refine WL_ef (ef_alloc ti44) rfl rfl rfl ?_
      rintro _ w3 ⟨b2, rfl, hl4, hb4, hx4⟩
      refine WL_val rfl rfl rfl (st_as (v := .int _ _) rfl) ?_
      refine WL_su (su_storea ti44 rfl hb4 rfl rfl (Nat.le_of_ble_eq_true rfl) rfl) rfl rfl ?_
      rintro w5 ⟨hnb, hf6⟩
      have hx7 : Ext w1 w5 := hx4.trans_new hf6 (fun _ h => by subst h; exact hl4)
      clear hb4
      have hb4 : Blk _ _ _ [_, _] := hnb
      clear hnb
      replace hrs1 := hrs1.ext hx7
      replace hx0 := hx0.ext hx7
      refine WL_nil ?_
      refine W_seq ?_
      refine W_quiet (Ext w5) mixed (by kernel_rfl) ((Ext.refl _).drew _) ?_
      refine WQ_val rfl rfl rfl (fun _ _ => st_indexAddra (i := 0) Tryd.underlying44 ti3 rfl rfl (by omega)) ?_
      refine WQ_val rfl rfl rfl (fun w' hx' => st_load ⟨_, Tryd.underlying3, rfl⟩ rfl (hx'.cell (hb4.cell 0 rfl))) ?_
      refine WQ_val rfl rfl rfl (fun _ _ => st_indexAddra (i := 1) Tryd.underlying44 ti3 rfl rfl (by omega)) ?_
      refine WQ_val rfl rfl rfl (fun w' hx' => st_load ⟨_, Tryd.underlying3, rfl⟩ rfl (hx'.cell (hb4.cell 1 rfl))) ?_
      refine WQ_val rfl rfl rfl (fun _ _ => st_as (v := .int _ _) rfl) ?_
      refine WQ_val rfl rfl rfl (fun _ _ => st_as (v := .int _ _) rfl) ?_
      refine WQ_nil ?_
      intro w8 hx9
      replace hrs1 := hrs1.ext hx9
      replace hx0 := hx0.ext hx9
      replace hb4 := hb4.ext hx9
      refine W_seq ?_
      refine W_seq ?_
      refine W_region ?_
      refine WL_val rfl rfl rfl (st_mv (v := .int _ _) rfl) ?_
      refine WL_val rfl rfl rfl (st_lss rfl rfl) ?_
      refine WL_val rfl rfl rfl (st_mv (v := .bool _) rfl) ?_
      refine WL_split 20 rfl (fun h20 => ?_) (fun h20 => ?_)
      · have g20 := of_decide_eq_true h20
        refine WL_pass rfl rfl rfl (congrArg Value.bool h20) rfl rfl ?_
        refine WL_pass rfl rfl rfl (congrArg Value.bool h20) rfl rfl ?_
        refine WL_val rfl rfl rfl (st_pk_t (v := (.bool true)) (congrArg Value.bool h20) rfl) ?_
        refine WL_val rfl rfl rfl (st_mv (v := .bool _) rfl) ?_
        refine WL_pass rfl rfl rfl rfl rfl rfl ?_
        refine WL_pass rfl rfl rfl rfl rfl rfl ?_
        refine WL_val rfl rfl rfl (st_pk_t (v := (.bool true)) rfl rfl) ?_
        refine WL_val rfl rfl rfl (st_mv (v := .bool _) rfl) ?_
        refine WL_pass rfl rfl rfl rfl rfl rfl ?_
        refine WL_pass rfl rfl rfl rfl rfl rfl ?_
        refine WL_val rfl rfl rfl (st_pk_t (v := (.bool true)) rfl rfl) ?_
        refine WL_val rfl rfl rfl (st_mv (v := .bool _) rfl) ?_
        refine WL_pass rfl rfl rfl rfl rfl rfl ?_
        refine WL_pass rfl rfl rfl rfl rfl rfl ?_
        refine WL_pass rfl rfl rfl rfl rfl rfl ?_
        refine WL_val rfl rfl rfl (st_pk_t (v := (.bool true)) rfl rfl) ?_
        refine WL_val rfl rfl rfl (st_mv (v := .bool _) rfl) ?_
        refine WL_pass rfl rfl rfl rfl rfl rfl ?_
        refine WL_pass rfl rfl rfl rfl rfl rfl ?_
        refine WL_pass rfl rfl rfl rfl rfl rfl ?_
        refine WL_passu rfl rfl rfl rfl rfl ?_
        refine WL_passu rfl rfl rfl rfl rfl ?_
        refine WL_pass rfl rfl rfl rfl rfl rfl ?_
        refine WL_val rfl rfl rfl (st_pk_t (v := (.bool true)) rfl rfl) ?_
        refine WL_nil ?_
        refine W_yes rfl ?_
        refine W_seq ?_
        refine W_region ?_
        refine WL_val rfl rfl rfl (st_as (v := (.int .i64 7)) rfl) ?_
        refine WL_nil ?_
        refine W_ret ?_
        refine qr1 ?_
        have hbad : rangeBad r = true := by
          simp only [rangeBad, Bool.or_eq_true, Bool.and_eq_true, decide_eq_true_eq]
          omega
        rw [hdr] at hinv
        exact ⟨vint (by rw [hinv, rangesF_cons, if_pos hbad]), hx0⟩
      · have g20 := of_decide_eq_false h20
        refine WL_valg rfl rfl rfl (congrArg Value.bool h20) rfl rfl (st_mv (v := .int _ _) rfl) ?_
        refine WL_valg rfl rfl rfl (congrArg Value.bool h20) rfl rfl (st_gtr rfl rfl) ?_
        refine WL_val rfl rfl rfl (st_pk_f (v := .bool _) (congrArg Value.bool h20) rfl) ?_
        refine WL_val rfl rfl rfl (st_mv (v := .bool _) rfl) ?_
        refine WL_split 24 rfl (fun h24 => ?_) (fun h24 => ?_)
        · have g24 := of_decide_eq_true h24
          refine WL_pass rfl rfl rfl (congrArg Value.bool h24) rfl rfl ?_
          refine WL_pass rfl rfl rfl (congrArg Value.bool h24) rfl rfl ?_
          refine WL_val rfl rfl rfl (st_pk_t (v := (.bool true)) (congrArg Value.bool h24) rfl) ?_
          refine WL_val rfl rfl rfl (st_mv (v := .bool _) rfl) ?_
          refine WL_pass rfl rfl rfl rfl rfl rfl ?_
          refine WL_pass rfl rfl rfl rfl rfl rfl ?_
          refine WL_val rfl rfl rfl (st_pk_t (v := (.bool true)) rfl rfl) ?_
          refine WL_val rfl rfl rfl (st_mv (v := .bool _) rfl) ?_
          refine WL_pass rfl rfl rfl rfl rfl rfl ?_
          refine WL_pass rfl rfl rfl rfl rfl rfl ?_
          refine WL_pass rfl rfl rfl rfl rfl rfl ?_
          refine WL_val rfl rfl rfl (st_pk_t (v := (.bool true)) rfl rfl) ?_
          refine WL_val rfl rfl rfl (st_mv (v := .bool _) rfl) ?_
          refine WL_pass rfl rfl rfl rfl rfl rfl ?_
          refine WL_pass rfl rfl rfl rfl rfl rfl ?_
          refine WL_pass rfl rfl rfl rfl rfl rfl ?_
          refine WL_passu rfl rfl rfl rfl rfl ?_
          refine WL_passu rfl rfl rfl rfl rfl ?_
          refine WL_pass rfl rfl rfl rfl rfl rfl ?_
          refine WL_val rfl rfl rfl (st_pk_t (v := (.bool true)) rfl rfl) ?_
          refine WL_nil ?_
          refine W_yes rfl ?_
          refine W_seq ?_
          refine W_region ?_
          refine WL_val rfl rfl rfl (st_as (v := (.int .i64 7)) rfl) ?_
          refine WL_nil ?_
          refine W_ret ?_
          refine qr1 ?_
          have hbad : rangeBad r = true := by
            simp only [rangeBad, Bool.or_eq_true, Bool.and_eq_true, decide_eq_true_eq]
            omega
          rw [hdr] at hinv
          exact ⟨vint (by rw [hinv, rangesF_cons, if_pos hbad]), hx0⟩
        · have g24 := of_decide_eq_false h24
          refine WL_valg rfl rfl rfl (congrArg Value.bool h24) rfl rfl (st_mv (v := .int _ _) rfl) ?_
          refine WL_valg rfl rfl rfl (congrArg Value.bool h24) rfl rfl (st_lss rfl rfl) ?_
          refine WL_val rfl rfl rfl (st_pk_f (v := .bool _) (congrArg Value.bool h24) rfl) ?_
          refine WL_val rfl rfl rfl (st_mv (v := .bool _) rfl) ?_
          refine WL_split 28 rfl (fun h28 => ?_) (fun h28 => ?_)
          · have g28 := of_decide_eq_true h28
            refine WL_pass rfl rfl rfl (congrArg Value.bool h28) rfl rfl ?_
            refine WL_pass rfl rfl rfl (congrArg Value.bool h28) rfl rfl ?_
            refine WL_val rfl rfl rfl (st_pk_t (v := (.bool true)) (congrArg Value.bool h28) rfl) ?_
            refine WL_val rfl rfl rfl (st_mv (v := .bool _) rfl) ?_
            refine WL_pass rfl rfl rfl rfl rfl rfl ?_
            refine WL_pass rfl rfl rfl rfl rfl rfl ?_
            refine WL_pass rfl rfl rfl rfl rfl rfl ?_
            refine WL_val rfl rfl rfl (st_pk_t (v := (.bool true)) rfl rfl) ?_
            refine WL_val rfl rfl rfl (st_mv (v := .bool _) rfl) ?_
            refine WL_pass rfl rfl rfl rfl rfl rfl ?_
            refine WL_pass rfl rfl rfl rfl rfl rfl ?_
            refine WL_pass rfl rfl rfl rfl rfl rfl ?_
            refine WL_passu rfl rfl rfl rfl rfl ?_
            refine WL_passu rfl rfl rfl rfl rfl ?_
            refine WL_pass rfl rfl rfl rfl rfl rfl ?_
            refine WL_val rfl rfl rfl (st_pk_t (v := (.bool true)) rfl rfl) ?_
            refine WL_nil ?_
            refine W_yes rfl ?_
            refine W_seq ?_
            refine W_region ?_
            refine WL_val rfl rfl rfl (st_as (v := (.int .i64 7)) rfl) ?_
            refine WL_nil ?_
            refine W_ret ?_
            refine qr1 ?_
            have hbad : rangeBad r = true := by
              simp only [rangeBad, Bool.or_eq_true, Bool.and_eq_true, decide_eq_true_eq]
              omega
            rw [hdr] at hinv
            exact ⟨vint (by rw [hinv, rangesF_cons, if_pos hbad]), hx0⟩
          · have g28 := of_decide_eq_false h28
            refine WL_valg rfl rfl rfl (congrArg Value.bool h28) rfl rfl (st_mv (v := .int _ _) rfl) ?_
            refine WL_valg rfl rfl rfl (congrArg Value.bool h28) rfl rfl (st_gtr rfl rfl) ?_
            refine WL_val rfl rfl rfl (st_pk_f (v := .bool _) (congrArg Value.bool h28) rfl) ?_
            refine WL_val rfl rfl rfl (st_mv (v := .bool _) rfl) ?_
            refine WL_split 32 rfl (fun h32 => ?_) (fun h32 => ?_)
            · have g32 := of_decide_eq_true h32
              refine WL_pass rfl rfl rfl (congrArg Value.bool h32) rfl rfl ?_
              refine WL_pass rfl rfl rfl (congrArg Value.bool h32) rfl rfl ?_
              refine WL_pass rfl rfl rfl (congrArg Value.bool h32) rfl rfl ?_
              refine WL_val rfl rfl rfl (st_pk_t (v := (.bool true)) (congrArg Value.bool h32) rfl) ?_
              refine WL_val rfl rfl rfl (st_mv (v := .bool _) rfl) ?_
              refine WL_pass rfl rfl rfl rfl rfl rfl ?_
              refine WL_pass rfl rfl rfl rfl rfl rfl ?_
              refine WL_pass rfl rfl rfl rfl rfl rfl ?_
              refine WL_passu rfl rfl rfl rfl rfl ?_
              refine WL_passu rfl rfl rfl rfl rfl ?_
              refine WL_pass rfl rfl rfl rfl rfl rfl ?_
              refine WL_val rfl rfl rfl (st_pk_t (v := (.bool true)) rfl rfl) ?_
              refine WL_nil ?_
              refine W_yes rfl ?_
              refine W_seq ?_
              refine W_region ?_
              refine WL_val rfl rfl rfl (st_as (v := (.int .i64 7)) rfl) ?_
              refine WL_nil ?_
              refine W_ret ?_
              refine qr1 ?_
              have hbad : rangeBad r = true := by
                simp only [rangeBad, Bool.or_eq_true, Bool.and_eq_true, decide_eq_true_eq]
                omega
              rw [hdr] at hinv
              exact ⟨vint (by rw [hinv, rangesF_cons, if_pos hbad]), hx0⟩
            · have g32 := of_decide_eq_false h32
              refine WL_valg rfl rfl rfl (congrArg Value.bool h32) rfl rfl (st_mv (v := .int _ _) rfl) ?_
              refine WL_valg rfl rfl rfl (congrArg Value.bool h32) rfl rfl (st_mv (v := .int _ _) rfl) ?_
              refine WL_valg rfl rfl rfl (congrArg Value.bool h32) rfl rfl (st_lss rfl rfl) ?_
              refine WL_val rfl rfl rfl (st_pk_f (v := .bool _) (congrArg Value.bool h32) rfl) ?_
              refine WL_val rfl rfl rfl (st_mv (v := .bool _) rfl) ?_
              refine WL_split 37 rfl (fun h37 => ?_) (fun h37 => ?_)
              · have g37 := of_decide_eq_true h37
                refine WL_pass rfl rfl rfl (congrArg Value.bool h37) rfl rfl ?_
                refine WL_pass rfl rfl rfl (congrArg Value.bool h37) rfl rfl ?_
                refine WL_pass rfl rfl rfl (congrArg Value.bool h37) rfl rfl ?_
                refine WL_passu rfl rfl rfl rfl rfl ?_
                refine WL_passu rfl rfl rfl rfl rfl ?_
                refine WL_pass rfl rfl rfl (congrArg Value.bool h37) rfl rfl ?_
                refine WL_val rfl rfl rfl (st_pk_t (v := (.bool true)) (congrArg Value.bool h37) rfl) ?_
                refine WL_nil ?_
                refine W_yes rfl ?_
                refine W_seq ?_
                refine W_region ?_
                refine WL_val rfl rfl rfl (st_as (v := (.int .i64 7)) rfl) ?_
                refine WL_nil ?_
                refine W_ret ?_
                refine qr1 ?_
                have hbad : rangeBad r = true := by
                  simp only [rangeBad, Bool.or_eq_true, Bool.and_eq_true, decide_eq_true_eq]
                  omega
                rw [hdr] at hinv
                exact ⟨vint (by rw [hinv, rangesF_cons, if_pos hbad]), hx0⟩
              · have g37 := of_decide_eq_false h37
                refine WL_valg rfl rfl rfl (congrArg Value.bool h37) rfl rfl (st_mv (v := .int _ _) rfl) ?_
                refine WL_valg rfl rfl rfl (congrArg Value.bool h37) rfl rfl (st_leq rfl rfl) ?_
                refine WL_valg rfl rfl rfl (congrArg Value.bool h37) rfl rfl (st_mv (v := .bool _) rfl) ?_
                refine WL_split 40 rfl (fun h40 => ?_) (fun h40 => ?_)
                · have g40 := of_decide_eq_true h40
                  refine WL_valg rfl rfl rfl (congrArg Value.bool h40) rfl rfl (st_mv (v := .int _ _) rfl) ?_
                  refine WL_valg rfl rfl rfl (congrArg Value.bool h40) rfl rfl (st_geq rfl rfl) ?_
                  refine WL_valg rfl rfl rfl (congrArg Value.bool h37) rfl rfl (st_pk_t (v := .bool _) (congrArg Value.bool h40) rfl) ?_
                  refine WL_val rfl rfl rfl (st_pk_f (v := .bool _) (congrArg Value.bool h37) rfl) ?_
                  refine WL_nil ?_
                  refine W_cond rfl (fun h44 => ?_) (fun h44 => ?_)
                  · have g44 := of_decide_eq_true h44
                    refine W_seq ?_
                    refine W_region ?_
                    refine WL_val rfl rfl rfl (st_as (v := (.int .i64 7)) rfl) ?_
                    refine WL_nil ?_
                    refine W_ret ?_
                    refine qr1 ?_
                    have hbad : rangeBad r = true := by
                      simp only [rangeBad, Bool.or_eq_true, Bool.and_eq_true, decide_eq_true_eq]
                      omega
                    rw [hdr] at hinv
                    exact ⟨vint (by rw [hinv, rangesF_cons, if_pos hbad]), hx0⟩
                  · have g44 := of_decide_eq_false h44
                    refine W_skip ?_
                    refine W_seq ?_
                    refine W_region ?_
                    refine WL_val rfl rfl rfl (st_mv (v := .int _ _) rfl) ?_
                    refine WL_val rfl rfl rfl (st_gtr rfl rfl) ?_
                    refine WL_val rfl rfl rfl (st_mv (v := .bool _) rfl) ?_
                    refine WL_split 47 rfl (fun h47 => ?_) (fun h47 => ?_)
                    · have g47 := of_decide_eq_true h47
                      have hkp := hprev (by omega)
                      have hk1 : k - 1 < rs.length := by omega
                      have hg2 := getD_at hk1 (0, 0)
                      have hq := RangesAt.at hrs1 hk1
                      rw [hg2] at hkp
                      generalize rs[k - 1] = r2 at hq hg2 hkp
                      obtain ⟨rb2, ro2, hD2, hra2, hrc2⟩ := hq
                      refine WL_valg rfl rfl rfl (congrArg Value.bool h47) rfl rfl (st_mv (v := .int _ _) rfl) ?_
                      refine WL_valg rfl rfl rfl (congrArg Value.bool h47) rfl rfl (st_mv (v := .slice _ _ _) rfl) ?_
                      refine WL_valg rfl rfl rfl (congrArg Value.bool h47) rfl rfl (st_mv (v := .int _ _) rfl) ?_
                      refine WL_valg rfl rfl rfl (congrArg Value.bool h47) rfl rfl (st_sub rfl rfl (by omega) (by omega)) ?_
                      refine WL_valg rfl rfl rfl (congrArg Value.bool h47) rfl rfl (st_indexAddr (i := k - 1) Tryd.underlying30 ti44 rfl hra2 (vint (by omega)) (by omega)) ?_
                      refine WL_valg rfl rfl rfl (congrArg Value.bool h47) rfl rfl (st_indexAddra (i := 1) Tryd.underlying44 ti3 rfl rfl (by omega)) ?_
                      refine WL_valg rfl rfl rfl (congrArg Value.bool h47) rfl rfl (st_load ⟨_, Tryd.underlying3, rfl⟩ rfl (hrc2 1 _ rfl)) ?_
                      refine WL_valg rfl rfl rfl (congrArg Value.bool h47) rfl rfl (st_add rfl rfl (by omega) (by omega)) ?_
                      refine WL_valg rfl rfl rfl (congrArg Value.bool h47) rfl rfl (st_leq rfl rfl) ?_
                      refine WL_val rfl rfl rfl (st_pk_t (v := .bool _) (congrArg Value.bool h47) rfl) ?_
                      refine WL_nil ?_
                      refine W_cond rfl (fun h57 => ?_) (fun h57 => ?_)
                      · have g57 := of_decide_eq_true h57
                        refine W_seq ?_
                        refine W_region ?_
                        refine WL_val rfl rfl rfl (st_as (v := (.int .i64 10)) rfl) ?_
                        refine WL_nil ?_
                        refine W_ret ?_
                        refine qr1 ?_
                        have hbad : rangeBad r = false := by
                          rw [Bool.eq_false_iff]
                          intro hb
                          simp only [rangeBad, Bool.or_eq_true, Bool.and_eq_true, decide_eq_true_eq] at hb
                          omega
                        rw [hdr] at hinv
                        refine ⟨vint ?_, hx0⟩
                        rw [hinv, rangesF_cons, if_neg (by rw [hbad]; simp)]
                        rw [prevOf_pos (show 0 < k from by omega)]
                        exact (if_pos (by rw [decide_eq_true_eq, hg2]; omega)).symm
                      · have g57 := of_decide_eq_false h57
                        refine W_skip ?_
                        refine W_region ?_
                        refine WL_val rfl rfl rfl (st_add rfl rfl (by omega) (by omega)) ?_
                        refine WL_val rfl rfl rfl (st_mv (v := .int _ _) rfl) ?_
                        refine WL_nil ?_
                        refine rnd_end ?_ (m - 1) ?_ ?_
                        · repeat (first | exact agree_in rfl rfl (agree_refl _ _) | exact agree_refl _ _ | refine agree_in rfl rfl ?_ | refine agree_upd rfl ?_)
                        · omega
                        · have hbad : rangeBad r = false := by
                            rw [Bool.eq_false_iff]
                            intro hb
                            simp only [rangeBad, Bool.or_eq_true, Bool.and_eq_true, decide_eq_true_eq] at hb
                            omega
                          refine ⟨k + 1, by omega, vec1 rfl, ?_, ?_, hx0⟩
                          · rw [hinv, hdr, rangesF_cons, if_neg (by rw [hbad]; simp)]
                            have e1 : prevOf rs (k + 1) = some r.2 := by unfold prevOf; rw [if_neg (by omega), Nat.add_sub_cancel, hg]
                            rw [e1]
                            by_cases hk0 : k = 0
                            · subst hk0; rfl
                            · rw [prevOf_pos (show 0 < k from by omega)]
                              first | exact absurd (show 0 < k from by omega) (by omega) | (rw [hg2]; exact if_neg (by rw [decide_eq_true_eq]; omega))
                          · intro _
                            rw [Nat.add_sub_cancel, hg]
                            omega
                    · have g47 := of_decide_eq_false h47
                      refine WL_pass rfl rfl rfl (congrArg Value.bool h47) rfl rfl ?_
                      refine WL_pass rfl rfl rfl (congrArg Value.bool h47) rfl rfl ?_
                      refine WL_pass rfl rfl rfl (congrArg Value.bool h47) rfl rfl ?_
                      refine WL_pass rfl rfl rfl (congrArg Value.bool h47) rfl rfl ?_
                      refine WL_pass rfl rfl rfl (congrArg Value.bool h47) rfl rfl ?_
                      refine WL_pass rfl rfl rfl (congrArg Value.bool h47) rfl rfl ?_
                      refine WL_pass rfl rfl rfl (congrArg Value.bool h47) rfl rfl ?_
                      refine WL_pass rfl rfl rfl (congrArg Value.bool h47) rfl rfl ?_
                      refine WL_pass rfl rfl rfl (congrArg Value.bool h47) rfl rfl ?_
                      refine WL_val rfl rfl rfl (st_pk_f (v := (.bool false)) (congrArg Value.bool h47) rfl) ?_
                      refine WL_nil ?_
                      refine W_no rfl ?_
                      refine W_skip ?_
                      refine W_region ?_
                      refine WL_val rfl rfl rfl (st_add rfl rfl (by omega) (by omega)) ?_
                      refine WL_val rfl rfl rfl (st_mv (v := .int _ _) rfl) ?_
                      refine WL_nil ?_
                      refine rnd_end ?_ (m - 1) ?_ ?_
                      · repeat (first | exact agree_in rfl rfl (agree_refl _ _) | exact agree_refl _ _ | refine agree_in rfl rfl ?_ | refine agree_upd rfl ?_)
                      · omega
                      · have hbad : rangeBad r = false := by
                          rw [Bool.eq_false_iff]
                          intro hb
                          simp only [rangeBad, Bool.or_eq_true, Bool.and_eq_true, decide_eq_true_eq] at hb
                          omega
                        refine ⟨k + 1, by omega, vec1 rfl, ?_, ?_, hx0⟩
                        · rw [hinv, hdr, rangesF_cons, if_neg (by rw [hbad]; simp)]
                          have e1 : prevOf rs (k + 1) = some r.2 := by unfold prevOf; rw [if_neg (by omega), Nat.add_sub_cancel, hg]
                          rw [e1]
                          by_cases hk0 : k = 0
                          · subst hk0; rfl
                          · rw [prevOf_pos (show 0 < k from by omega)]
                            first | exact absurd (show 0 < k from by omega) (by omega) | (rw [hg2]; exact if_neg (by rw [decide_eq_true_eq]; omega))
                        · intro _
                          rw [Nat.add_sub_cancel, hg]
                          omega
                · have g40 := of_decide_eq_false h40
                  refine WL_pass rfl rfl rfl (congrArg Value.bool h40) rfl rfl ?_
                  refine WL_pass rfl rfl rfl (congrArg Value.bool h40) rfl rfl ?_
                  refine WL_valg rfl rfl rfl (congrArg Value.bool h37) rfl rfl (st_pk_f (v := (.bool false)) (congrArg Value.bool h40) rfl) ?_
                  refine WL_val rfl rfl rfl (st_pk_f (v := .bool _) (congrArg Value.bool h37) rfl) ?_
                  refine WL_nil ?_
                  refine W_no rfl ?_
                  refine W_skip ?_
                  refine W_seq ?_
                  refine W_region ?_
                  refine WL_val rfl rfl rfl (st_mv (v := .int _ _) rfl) ?_
                  refine WL_val rfl rfl rfl (st_gtr rfl rfl) ?_
                  refine WL_val rfl rfl rfl (st_mv (v := .bool _) rfl) ?_
                  refine WL_split 47 rfl (fun h47 => ?_) (fun h47 => ?_)
                  · have g47 := of_decide_eq_true h47
                    have hkp := hprev (by omega)
                    have hk1 : k - 1 < rs.length := by omega
                    have hg2 := getD_at hk1 (0, 0)
                    have hq := RangesAt.at hrs1 hk1
                    rw [hg2] at hkp
                    generalize rs[k - 1] = r2 at hq hg2 hkp
                    obtain ⟨rb2, ro2, hD2, hra2, hrc2⟩ := hq
                    refine WL_valg rfl rfl rfl (congrArg Value.bool h47) rfl rfl (st_mv (v := .int _ _) rfl) ?_
                    refine WL_valg rfl rfl rfl (congrArg Value.bool h47) rfl rfl (st_mv (v := .slice _ _ _) rfl) ?_
                    refine WL_valg rfl rfl rfl (congrArg Value.bool h47) rfl rfl (st_mv (v := .int _ _) rfl) ?_
                    refine WL_valg rfl rfl rfl (congrArg Value.bool h47) rfl rfl (st_sub rfl rfl (by omega) (by omega)) ?_
                    refine WL_valg rfl rfl rfl (congrArg Value.bool h47) rfl rfl (st_indexAddr (i := k - 1) Tryd.underlying30 ti44 rfl hra2 (vint (by omega)) (by omega)) ?_
                    refine WL_valg rfl rfl rfl (congrArg Value.bool h47) rfl rfl (st_indexAddra (i := 1) Tryd.underlying44 ti3 rfl rfl (by omega)) ?_
                    refine WL_valg rfl rfl rfl (congrArg Value.bool h47) rfl rfl (st_load ⟨_, Tryd.underlying3, rfl⟩ rfl (hrc2 1 _ rfl)) ?_
                    refine WL_valg rfl rfl rfl (congrArg Value.bool h47) rfl rfl (st_add rfl rfl (by omega) (by omega)) ?_
                    refine WL_valg rfl rfl rfl (congrArg Value.bool h47) rfl rfl (st_leq rfl rfl) ?_
                    refine WL_val rfl rfl rfl (st_pk_t (v := .bool _) (congrArg Value.bool h47) rfl) ?_
                    refine WL_nil ?_
                    refine W_cond rfl (fun h57 => ?_) (fun h57 => ?_)
                    · have g57 := of_decide_eq_true h57
                      refine W_seq ?_
                      refine W_region ?_
                      refine WL_val rfl rfl rfl (st_as (v := (.int .i64 10)) rfl) ?_
                      refine WL_nil ?_
                      refine W_ret ?_
                      refine qr1 ?_
                      have hbad : rangeBad r = false := by
                        rw [Bool.eq_false_iff]
                        intro hb
                        simp only [rangeBad, Bool.or_eq_true, Bool.and_eq_true, decide_eq_true_eq] at hb
                        omega
                      rw [hdr] at hinv
                      refine ⟨vint ?_, hx0⟩
                      rw [hinv, rangesF_cons, if_neg (by rw [hbad]; simp)]
                      rw [prevOf_pos (show 0 < k from by omega)]
                      exact (if_pos (by rw [decide_eq_true_eq, hg2]; omega)).symm
                    · have g57 := of_decide_eq_false h57
                      refine W_skip ?_
                      refine W_region ?_
                      refine WL_val rfl rfl rfl (st_add rfl rfl (by omega) (by omega)) ?_
                      refine WL_val rfl rfl rfl (st_mv (v := .int _ _) rfl) ?_
                      refine WL_nil ?_
                      refine rnd_end ?_ (m - 1) ?_ ?_
                      · repeat (first | exact agree_in rfl rfl (agree_refl _ _) | exact agree_refl _ _ | refine agree_in rfl rfl ?_ | refine agree_upd rfl ?_)
                      · omega
                      · have hbad : rangeBad r = false := by
                          rw [Bool.eq_false_iff]
                          intro hb
                          simp only [rangeBad, Bool.or_eq_true, Bool.and_eq_true, decide_eq_true_eq] at hb
                          omega
                        refine ⟨k + 1, by omega, vec1 rfl, ?_, ?_, hx0⟩
                        · rw [hinv, hdr, rangesF_cons, if_neg (by rw [hbad]; simp)]
                          have e1 : prevOf rs (k + 1) = some r.2 := by unfold prevOf; rw [if_neg (by omega), Nat.add_sub_cancel, hg]
                          rw [e1]
                          by_cases hk0 : k = 0
                          · subst hk0; rfl
                          · rw [prevOf_pos (show 0 < k from by omega)]
                            first | exact absurd (show 0 < k from by omega) (by omega) | (rw [hg2]; exact if_neg (by rw [decide_eq_true_eq]; omega))
                        · intro _
                          rw [Nat.add_sub_cancel, hg]
                          omega
                  · have g47 := of_decide_eq_false h47
                    refine WL_pass rfl rfl rfl (congrArg Value.bool h47) rfl rfl ?_
                    refine WL_pass rfl rfl rfl (congrArg Value.bool h47) rfl rfl ?_
                    refine WL_pass rfl rfl rfl (congrArg Value.bool h47) rfl rfl ?_
                    refine WL_pass rfl rfl rfl (congrArg Value.bool h47) rfl rfl ?_
                    refine WL_pass rfl rfl rfl (congrArg Value.bool h47) rfl rfl ?_
                    refine WL_pass rfl rfl rfl (congrArg Value.bool h47) rfl rfl ?_
                    refine WL_pass rfl rfl rfl (congrArg Value.bool h47) rfl rfl ?_
                    refine WL_pass rfl rfl rfl (congrArg Value.bool h47) rfl rfl ?_
                    refine WL_pass rfl rfl rfl (congrArg Value.bool h47) rfl rfl ?_
                    refine WL_val rfl rfl rfl (st_pk_f (v := (.bool false)) (congrArg Value.bool h47) rfl) ?_
                    refine WL_nil ?_
                    refine W_no rfl ?_
                    refine W_skip ?_
                    refine W_region ?_
                    refine WL_val rfl rfl rfl (st_add rfl rfl (by omega) (by omega)) ?_
                    refine WL_val rfl rfl rfl (st_mv (v := .int _ _) rfl) ?_
                    refine WL_nil ?_
                    refine rnd_end ?_ (m - 1) ?_ ?_
                    · repeat (first | exact agree_in rfl rfl (agree_refl _ _) | exact agree_refl _ _ | refine agree_in rfl rfl ?_ | refine agree_upd rfl ?_)
                    · omega
                    · have hbad : rangeBad r = false := by
                        rw [Bool.eq_false_iff]
                        intro hb
                        simp only [rangeBad, Bool.or_eq_true, Bool.and_eq_true, decide_eq_true_eq] at hb
                        omega
                      refine ⟨k + 1, by omega, vec1 rfl, ?_, ?_, hx0⟩
                      · rw [hinv, hdr, rangesF_cons, if_neg (by rw [hbad]; simp)]
                        have e1 : prevOf rs (k + 1) = some r.2 := by unfold prevOf; rw [if_neg (by omega), Nat.add_sub_cancel, hg]
                        rw [e1]
                        by_cases hk0 : k = 0
                        · subst hk0; rfl
                        · rw [prevOf_pos (show 0 < k from by omega)]
                          first | exact absurd (show 0 < k from by omega) (by omega) | (rw [hg2]; exact if_neg (by rw [decide_eq_true_eq]; omega))
                      · intro _
                        rw [Nat.add_sub_cancel, hg]
                        omega
    · have g10 := of_decide_eq_false h10
      refine W_exit ?_
      refine W_seq ?_
      refine W_region ?_
      refine WL_val rfl rfl rfl (st_as (v := (.int .i64 0)) rfl) ?_
      refine WL_nil ?_
      refine W_ret ?_
      refine qr1 ?_
      rw [List.drop_eq_nil_of_le (by omega)] at hinv
      exact ⟨vint (by rw [hinv, rangesF_nil]), hx0⟩
def isTextAt (ps : List Part) (i : Int) : Bool := decide (0 ≤ i) && (match ps[i.toNat]? with | some p => isTextP p | none => false)

theorem isText_ok (ps : List Part) (i : Int) (D : Nat → Prop) (a : Option Addr) (cp b : Nat) (w : World) (hb : Blk w b 22 [.slice a ps.length cp]) (hps : PartsAt D w (.slice a ps.length cp) ps) :
    Fun Tryd.prog 21 [.int .i64 i, .pointer (some ⟨b, 0, none⟩)] w (fun r w' => r = .bool (isTextAt ps i) ∧ w = w') := by
  refine fun1 Tryd.func21 rfl (by kernel_rfl) rfl rfl rfl ?_
  refine W_seq ?_
  refine W_region ?_
  refine WL_val rfl rfl rfl (st_as (v := (.bool false)) rfl) ?_
  refine WL_nil ?_
  refine W_seq ?_
  refine W_region ?_
  refine WL_val rfl rfl rfl (st_mv (v := .int _ _) rfl) ?_
  refine WL_val rfl rfl rfl (st_geq rfl rfl) ?_
  refine WL_val rfl rfl rfl (st_mv (v := .bool _) rfl) ?_
  refine WL_split 6 rfl (fun h6 => ?_) (fun h6 => ?_)
  · have g6 := of_decide_eq_true h6
    refine WL_valg rfl rfl rfl (congrArg Value.bool h6) rfl rfl (st_mv (v := .int _ _) rfl) ?_
    refine WL_valg rfl rfl rfl (congrArg Value.bool h6) rfl rfl (st_load ⟨_, Tryd.underlying22, rfl⟩ rfl (hb.cell 0 rfl)) ?_
    refine WL_valg rfl rfl rfl (congrArg Value.bool h6) rfl rfl (st_len Tryd.underlying22 rfl) ?_
    refine WL_valg rfl rfl rfl (congrArg Value.bool h6) rfl rfl (st_lss rfl rfl) ?_
    refine WL_val rfl rfl rfl (st_pk_t (v := .bool _) (congrArg Value.bool h6) rfl) ?_
    refine WL_val rfl rfl rfl (st_mv (v := .bool _) rfl) ?_
    refine WL_split 12 rfl (fun h12 => ?_) (fun h12 => ?_)
    · have g12 := of_decide_eq_true h12
      have hi' : i.toNat < ps.length := by omega
      obtain ⟨pb, po, rv, wv, hpD, hpa, hpc, hpr, hpw⟩ := hps.at hi'
      refine WL_valg rfl rfl rfl (congrArg Value.bool h12) rfl rfl (st_load ⟨_, Tryd.underlying22, rfl⟩ rfl (hb.cell 0 rfl)) ?_
      refine WL_valg rfl rfl rfl (congrArg Value.bool h12) rfl rfl (st_mv (v := .int _ _) rfl) ?_
      refine WL_valg rfl rfl rfl (congrArg Value.bool h12) rfl rfl (st_indexAddr (i := i.toNat) Tryd.underlying22 ti33 rfl hpa (vint (by omega)) (by omega)) ?_
      refine WL_valg rfl rfl rfl (congrArg Value.bool h12) rfl rfl (st_fieldAddr (off := 0) Tryd.underlying33 rfl rfl ti3 rfl) ?_
      refine WL_valg rfl rfl rfl (congrArg Value.bool h12) rfl rfl (st_load ⟨_, Tryd.underlying3, rfl⟩ rfl (hpc 0 _ rfl)) ?_
      refine WL_valg rfl rfl rfl (congrArg Value.bool h12) rfl rfl (st_eql rfl rfl) ?_
      refine WL_val rfl rfl rfl (st_pk_t (v := .bool _) (congrArg Value.bool h12) rfl) ?_
      refine WL_val rfl rfl rfl (st_as (v := .bool _) rfl) ?_
      refine WL_nil ?_
      refine W_ret ?_
      refine qr1 ?_
      refine ⟨vbool ?_, rfl⟩
      unfold isTextAt
      rw [decide_eq_true (show 0 ≤ i from by omega), Bool.true_and, List.getElem?_eq_getElem hi']
      rfl
    · have g12 := of_decide_eq_false h12
      refine WL_pass rfl rfl rfl (congrArg Value.bool h12) rfl rfl ?_
      refine WL_pass rfl rfl rfl (congrArg Value.bool h12) rfl rfl ?_
      refine WL_pass rfl rfl rfl (congrArg Value.bool h12) rfl rfl ?_
      refine WL_pass rfl rfl rfl (congrArg Value.bool h12) rfl rfl ?_
      refine WL_pass rfl rfl rfl (congrArg Value.bool h12) rfl rfl ?_
      refine WL_pass rfl rfl rfl (congrArg Value.bool h12) rfl rfl ?_
      refine WL_val rfl rfl rfl (st_pk_f (v := (.bool false)) (congrArg Value.bool h12) rfl) ?_
      refine WL_val rfl rfl rfl (st_as (v := .bool _) rfl) ?_
      refine WL_nil ?_
      refine W_ret ?_
      refine qr1 ?_
      refine ⟨vbool ?_, rfl⟩
      unfold isTextAt
      rw [decide_eq_true (show 0 ≤ i from by omega), Bool.true_and, List.getElem?_eq_none (by omega)]
  · have g6 := of_decide_eq_false h6
    refine WL_pass rfl rfl rfl (congrArg Value.bool h6) rfl rfl ?_
    refine WL_pass rfl rfl rfl (congrArg Value.bool h6) rfl rfl ?_
    refine WL_pass rfl rfl rfl (congrArg Value.bool h6) rfl rfl ?_
    refine WL_pass rfl rfl rfl (congrArg Value.bool h6) rfl rfl ?_
    refine WL_val rfl rfl rfl (st_pk_f (v := (.bool false)) (congrArg Value.bool h6) rfl) ?_
    refine WL_val rfl rfl rfl (st_mv (v := .bool _) rfl) ?_
    refine WL_pass rfl rfl rfl rfl rfl rfl ?_
    refine WL_pass rfl rfl rfl rfl rfl rfl ?_
    refine WL_pass rfl rfl rfl rfl rfl rfl ?_
    refine WL_pass rfl rfl rfl rfl rfl rfl ?_
    refine WL_pass rfl rfl rfl rfl rfl rfl ?_
    refine WL_pass rfl rfl rfl rfl rfl rfl ?_
    refine WL_val rfl rfl rfl (st_pk_f (v := (.bool false)) rfl rfl) ?_
    refine WL_val rfl rfl rfl (st_as (v := .bool _) rfl) ?_
    refine WL_nil ?_
    refine W_ret ?_
    refine qr1 ?_
    refine ⟨vbool ?_, rfl⟩
    unfold isTextAt
    rw [decide_eq_false (show ¬ 0 ≤ i from by omega), Bool.false_and]
theorem isTextAt_next (ps : List Part) (k : Nat) : isTextAt ps ((k : Int) + 1) = headText (ps.drop (k + 1)) := by
  unfold isTextAt
  rw [decide_eq_true (by omega), Bool.true_and, show ((k : Int) + 1).toNat = k + 1 from by omega]
  cases h : ps.drop (k + 1) with
  | nil =>
    rw [List.getElem?_eq_none (by simpa using h)]
    rfl
  | cons p l =>
    have : ps[k + 1]? = some p := by
      have h2 : (ps.drop (k + 1))[0]? = some p := by rw [h]; rfl
      simpa using h2
    rw [this]
    rfl
theorem isTextAt_zero (ps : List Part) : isTextAt ps ((0 : Int) - 1) = false := by
  unfold isTextAt
  rw [decide_eq_false (by omega), Bool.false_and]

set_option maxHeartbeats 1000000 in
theorem checkParts_ok (N : Nat) : ∀ (ps : List Part), cntP ps < N → ∀ (D : Nat → Prop) (v : Value) (w : World), PartsAt D w v ps →
    Fun Tryd.prog 13 [v] w (fun r w' => r = .int .i64 (checkL false ps) ∧ Ext w w') := by
  induction N with
  | zero => intro ps h; omega
  | succ N ih =>
  intro ps hN D v w hps
  obtain ⟨a, cp, rfl, hpl⟩ := hps.form
  have hx0 := Ext.refl w
  refine fun1 Tryd.func13 rfl (by kernel_rfl) rfl rfl rfl ?_
  refine W_seq ?_
  refine W_region ?_
  refine WL_ef (ef_box (cs := [.slice _ _ _]) rfl) rfl rfl rfl ?_
  rintro _ w2 ⟨b1, rfl, hl1, hb1, hx3⟩
  replace hx0 := hx0.ext hx3
  refine WL_val rfl rfl rfl (st_as (v := (.int .i64 0)) rfl) ?_
  refine WL_nil ?_
  refine W_seq ?_
  refine W_region ?_
  refine WL_val rfl rfl rfl (st_makeFunc (vf := []) (vc := [.pointer _]) rfl rfl) ?_
  refine WL_val rfl rfl rfl (st_as (v := .func _ _ _) rfl) ?_
  refine WL_nil ?_
  refine W_seq ?_
  refine W_seq ?_
  refine W_region ?_
  refine WL_val rfl rfl rfl (st_load ⟨_, Tryd.underlying22, rfl⟩ rfl (hb1.cell 0 rfl)) ?_
  refine WL_val rfl rfl rfl (st_len Tryd.underlying22 rfl) ?_
  refine WL_val rfl rfl rfl (st_mv (v := (.int .i64 0)) rfl) ?_
  refine WL_nil ?_
  refine W_block ?_
  refine W_loop [14] [2, 4, 5, 6, 7, 9, 10, 14, 15, 16, 17, 18, 19, 20, 21, 22, 23, 24, 25, 26, 27, 28, 29, 30, 31, 32, 33, 34, 35, 36, 37, 38, 39, 40, 41, 42, 43, 44, 45, 46, 47, 48, 49, 50, 51, 52, 53, 54, 55, 56, 57, 58, 59, 60, 61, 62, 63, 64, 65, 66] (fun m vs w1 => ∃ k : Nat, k + m = ps.length ∧ vs = [.int .i64 (k : Int)] ∧ checkL false ps = checkL (isTextAt ps ((k : Int) - 1)) (ps.drop k) ∧ Ext w w1 ∧ Blk w1 b1 22 [.slice a ps.length cp]) ?_ ?_
  · exact ⟨ps.length, 0, by omega, rfl, by rw [show ((0 : Nat) : Int) - 1 = 0 - 1 from rfl, isTextAt_zero]; rfl, hx0, hb1⟩
  · intro m vs w4 u hI
    obtain ⟨k, hk, rfl, hinv, hx0, hb1⟩ := hI
    have hps1 := hps.ext hx0
    refine W_seq ?_
    refine W_region ?_
    refine WL_val rfl rfl rfl (st_lss rfl rfl) ?_
    refine WL_nil ?_
    refine W_seq ?_
    refine W_cond rfl (fun h15 => ?_) (fun h15 => ?_)
    · have g15 := of_decide_eq_true h15
      refine W_skip ?_
      refine W_seq ?_
      refine W_block ?_
      refine W_seq ?_
      have hk' : k < ps.length := by omega
      obtain ⟨pb, po, rv, wv, hpD, hpa, hpc, hpr, hpw⟩ := hps1.at hk'
      have hdr := drop_at hk'
      have hit : isTextAt ps (k : Int) = isTextP ps[k] := by
        unfold isTextAt
        rw [decide_eq_true (by omega), Bool.true_and, Int.toNat_natCast, List.getElem?_eq_getElem hk']
      have hin : isTextAt ps ((k : Int) + 1) = headText (ps.drop (k + 1)) := isTextAt_next ps k
      generalize ps[k] = p at hpc hpr hpw hdr hit
      rw [hdr] at hinv
      have hcnt : p.cnt ≤ cntP ps := by have := cntP_drop ps k; rw [hdr] at this; simp only [cntP] at this; omega
      obtain ⟨wa, wcp, rfl, hwl⟩ := hpw.form
      obtain ⟨ra, rcp, rfl, hrl⟩ := hpr.form
      refine W_region ?_
      refine WL_val rfl rfl rfl (st_mv (v := .int _ _) rfl) ?_
      refine WL_val rfl rfl rfl (st_indexAddr Tryd.underlying22 ti33 rfl hpa rfl (by omega)) ?_
      refine WL_val rfl rfl rfl (st_loada ⟨_, Tryd.underlying33, rfl⟩ ti33 rfl hpc rfl) ?_
      refine WL_ef (ef_alloc ti33) rfl rfl rfl ?_
      rintro _ w6 ⟨b5, rfl, hl5, hb5, hx7⟩
      refine WL_val rfl rfl rfl (st_as (v := .int _ _) rfl) ?_
      refine WL_su (su_storea ti33 rfl hb5 rfl rfl (Nat.le_of_ble_eq_true rfl) rfl) rfl rfl ?_
      rintro w8 ⟨hnb, hf9⟩
      have hx10 : Ext w4 w8 := hx7.trans_new hf9 (fun _ h => by subst h; exact hl5)
      clear hb5
      have hb5 : Blk _ _ _ [_, _, _, _, _] := hnb
      clear hnb
      replace hps1 := hps1.ext hx10
      replace hx0 := hx0.ext hx10
      replace hpw := hpw.ext hx10
      replace hpr := hpr.ext hx10
      replace hb1 := hb1.ext hx10
      refine WL_nil ?_
      refine W_seq ?_
      refine W_seq ?_
      refine W_region ?_
      refine WL_val rfl rfl rfl (st_fieldAddr (off := 0) Tryd.underlying33 rfl rfl ti3 rfl) ?_
      refine WL_val rfl rfl rfl (st_load ⟨_, Tryd.underlying3, rfl⟩ rfl (hb5.cell 0 rfl)) ?_
      refine WL_val rfl rfl rfl (st_lss rfl rfl) ?_
      refine WL_val rfl rfl rfl (st_mv (v := .bool _) rfl) ?_
      refine WL_split 22 rfl (fun h22 => ?_) (fun h22 => ?_)
      · have g22 := of_decide_eq_true h22
        refine WL_pass rfl rfl rfl (congrArg Value.bool h22) rfl rfl ?_
        refine WL_pass rfl rfl rfl (congrArg Value.bool h22) rfl rfl ?_
        refine WL_pass rfl rfl rfl (congrArg Value.bool h22) rfl rfl ?_
        refine WL_val rfl rfl rfl (st_pk_t (v := (.bool true)) (congrArg Value.bool h22) rfl) ?_
        refine WL_nil ?_
        refine W_yes rfl ?_
        refine W_seq ?_
        refine W_region ?_
        refine WL_val rfl rfl rfl (st_as (v := (.int .i64 5)) rfl) ?_
        refine WL_nil ?_
        refine W_ret ?_
        refine qr1 ?_
        exact ⟨vint (by rw [hinv, checkL_cons]; rw [if_pos (by omega)]), hx0⟩
      · have g22 := of_decide_eq_false h22
        refine WL_valg rfl rfl rfl (congrArg Value.bool h22) rfl rfl (st_fieldAddr (off := 0) Tryd.underlying33 rfl rfl ti3 rfl) ?_
        refine WL_valg rfl rfl rfl (congrArg Value.bool h22) rfl rfl (st_load ⟨_, Tryd.underlying3, rfl⟩ rfl (hb5.cell 0 rfl)) ?_
        refine WL_valg rfl rfl rfl (congrArg Value.bool h22) rfl rfl (st_gtr rfl rfl) ?_
        refine WL_val rfl rfl rfl (st_pk_f (v := .bool _) (congrArg Value.bool h22) rfl) ?_
        refine WL_nil ?_
        refine W_cond rfl (fun h26 => ?_) (fun h26 => ?_)
        · have g26 := of_decide_eq_true h26
          refine W_seq ?_
          refine W_region ?_
          refine WL_val rfl rfl rfl (st_as (v := (.int .i64 5)) rfl) ?_
          refine WL_nil ?_
          refine W_ret ?_
          refine qr1 ?_
          exact ⟨vint (by rw [hinv, checkL_cons]; rw [if_pos (by omega)]), hx0⟩
        · have g26 := of_decide_eq_false h26
          refine W_skip ?_
          refine W_seq ?_
          refine W_seq ?_
          refine W_region ?_
          refine WL_val rfl rfl rfl (st_loada ⟨_, Tryd.underlying33, rfl⟩ ti33 rfl hb5.cells rfl) ?_
          refine WL_call rfl rfl rfl (partForm_ok p ra wa rcp wcp _) (ent_go rfl) ?_
          rintro _ w11 ⟨rfl, hx12⟩
          replace hps1 := hps1.ext hx12
          replace hx0 := hx0.ext hx12
          replace hpw := hpw.ext hx12
          replace hpr := hpr.ext hx12
          replace hb1 := hb1.ext hx12
          replace hb5 := hb5.ext hx12
          refine WL_val rfl rfl rfl (st_as (v := .int _ _) rfl) ?_
          refine WL_nil ?_
          refine W_seq ?_
          refine W_region ?_
          refine WL_val rfl rfl rfl (st_mv (v := .int _ _) rfl) ?_
          refine WL_val rfl rfl rfl (st_neq rfl rfl) ?_
          refine WL_nil ?_
          refine W_cond rfl (fun h30 => ?_) (fun h30 => ?_)
          · have g30 := of_decide_eq_true h30
            have hbad : badB p = true := by unfold formF at g30; by_cases hb : badB p = true; exact hb; rw [if_neg hb] at g30; exact absurd rfl g30
            refine W_seq ?_
            refine W_region ?_
            refine WL_val rfl rfl rfl (st_mv (v := .int _ _) rfl) ?_
            refine WL_val rfl rfl rfl (st_as (v := .int _ _) rfl) ?_
            refine WL_nil ?_
            refine W_ret ?_
            refine qr1 ?_
            exact ⟨vint (by rw [hinv, checkL_cons, if_neg (show ¬ (p.kind < 1 ∨ 6 < p.kind) from by omega), if_pos hbad, formF, if_pos hbad]), hx0⟩
          · have g30 := of_decide_eq_false h30
            have hgood : ¬ badB p = true := by intro hb; unfold formF at g30; rw [if_pos hb] at g30; exact g30 (by decide)
            refine W_skip ?_
            refine W_seq ?_
            refine W_seq ?_
            refine W_region ?_
            refine WL_val rfl rfl rfl (st_mv (v := .func _ _ _) rfl) ?_
            refine WL_val rfl rfl rfl (st_mv (v := .int _ _) rfl) ?_
            refine WL_call rfl rfl rfl (isText_ok ps (k : Int) D a cp b1 _ hb1 hps1) (ent_val rfl rfl) ?_
            rintro _ w13 ⟨rfl, rfl⟩
            refine WL_val rfl rfl rfl (st_mv (v := .bool _) rfl) ?_
            refine WL_split 35 rfl (fun h35 => ?_) (fun h35 => ?_)
            · have g35 := h35
              refine WL_valg rfl rfl rfl (congrArg Value.bool h35) rfl rfl (st_mv (v := .func _ _ _) rfl) ?_
              refine WL_valg rfl rfl rfl (congrArg Value.bool h35) rfl rfl (st_mv (v := .int _ _) rfl) ?_
              refine WL_valg rfl rfl rfl (congrArg Value.bool h35) rfl rfl (st_sub rfl rfl (by omega) (by omega)) ?_
              refine WL_callg rfl rfl rfl (congrArg Value.bool h35) rfl rfl (isText_ok ps ((k : Int) - 1) D a cp b1 _ hb1 hps1) (ent_val rfl rfl) ?_
              rintro _ w15 ⟨rfl, rfl⟩
              refine WL_valg rfl rfl rfl (congrArg Value.bool h35) rfl rfl (st_mv (v := .bool _) rfl) ?_
              refine WL_split 40 rfl (fun h40 => ?_) (fun h40 => ?_)
              · have g40 := h40
                refine WL_pass rfl rfl rfl (congrArg Value.bool h40) rfl rfl ?_
                refine WL_pass rfl rfl rfl (congrArg Value.bool h40) rfl rfl ?_
                refine WL_pass rfl rfl rfl (congrArg Value.bool h40) rfl rfl ?_
                refine WL_pass rfl rfl rfl (congrArg Value.bool h40) rfl rfl ?_
                refine WL_valg rfl rfl rfl (congrArg Value.bool h35) rfl rfl (st_pk_t (v := (.bool true)) (congrArg Value.bool h40) rfl) ?_
                refine WL_val rfl rfl rfl (st_pk_t (v := .bool _) (congrArg Value.bool h35) rfl) ?_
                refine WL_nil ?_
                refine W_yes rfl ?_
                refine W_seq ?_
                refine W_region ?_
                refine WL_val rfl rfl rfl (st_as (v := (.int .i64 6)) rfl) ?_
                refine WL_nil ?_
                refine W_ret ?_
                refine qr1 ?_
                exact ⟨vint (by rw [hinv, checkL_cons, if_neg (show ¬ (p.kind < 1 ∨ 6 < p.kind) from by omega), if_neg hgood, if_pos (by rw [← hit, ← hin]; simp [h35, h40])]), hx0⟩
              · have g40 := h40
                refine WL_valg rfl rfl rfl (congrArg Value.bool h40) rfl rfl (st_mv (v := .func _ _ _) rfl) ?_
                refine WL_valg rfl rfl rfl (congrArg Value.bool h40) rfl rfl (st_mv (v := .int _ _) rfl) ?_
                refine WL_valg rfl rfl rfl (congrArg Value.bool h40) rfl rfl (st_add rfl rfl (by omega) (by omega)) ?_
                refine WL_callg rfl rfl rfl (congrArg Value.bool h40) rfl rfl (isText_ok ps ((k : Int) + 1) D a cp b1 _ hb1 hps1) (ent_val rfl rfl) ?_
                rintro _ w17 ⟨rfl, rfl⟩
                refine WL_valg rfl rfl rfl (congrArg Value.bool h35) rfl rfl (st_pk_f (v := .bool _) (congrArg Value.bool h40) rfl) ?_
                refine WL_val rfl rfl rfl (st_pk_t (v := .bool _) (congrArg Value.bool h35) rfl) ?_
                refine WL_nil ?_
                refine W_cond rfl (fun h46 => ?_) (fun h46 => ?_)
                · have g46 := h46
                  refine W_seq ?_
                  refine W_region ?_
                  refine WL_val rfl rfl rfl (st_as (v := (.int .i64 6)) rfl) ?_
                  refine WL_nil ?_
                  refine W_ret ?_
                  refine qr1 ?_
                  exact ⟨vint (by rw [hinv, checkL_cons, if_neg (show ¬ (p.kind < 1 ∨ 6 < p.kind) from by omega), if_neg hgood, if_pos (by rw [← hit, ← hin]; simp [h35, h40, h46])]), hx0⟩
                · have g46 := h46
                  refine W_skip ?_
                  refine W_seq ?_
                  refine W_seq ?_
                  have htxt : ¬ ((isTextP p && (isTextAt ps ((k : Int) - 1) || headText (ps.drop (k + 1)))) = true) := by rw [← hit, ← hin]; simp [h35, h40, h46]
                  refine W_region ?_
                  refine WL_val rfl rfl rfl (st_fieldAddr (off := 3) Tryd.underlying33 rfl rfl ti30 rfl) ?_
                  refine WL_val rfl rfl rfl (st_load ⟨_, Tryd.underlying30, rfl⟩ rfl (hb5.cell 3 rfl)) ?_
                  refine WL_call rfl rfl rfl (rangesForm_ok p.ranges D _ _ hpr) (ent_go rfl) ?_
                  rintro _ w19 ⟨rfl, hx20⟩
                  replace hps1 := hps1.ext hx20
                  replace hx0 := hx0.ext hx20
                  replace hpw := hpw.ext hx20
                  replace hpr := hpr.ext hx20
                  replace hb1 := hb1.ext hx20
                  replace hb5 := hb5.ext hx20
                  refine WL_val rfl rfl rfl (st_as (v := .int _ _) rfl) ?_
                  refine WL_nil ?_
                  refine W_seq ?_
                  refine W_region ?_
                  refine WL_val rfl rfl rfl (st_mv (v := .int _ _) rfl) ?_
                  refine WL_val rfl rfl rfl (st_neq rfl rfl) ?_
                  refine WL_nil ?_
                  refine W_cond rfl (fun h51 => ?_) (fun h51 => ?_)
                  · have g51 := of_decide_eq_true h51
                    refine W_seq ?_
                    refine W_region ?_
                    refine WL_val rfl rfl rfl (st_mv (v := .int _ _) rfl) ?_
                    refine WL_val rfl rfl rfl (st_as (v := .int _ _) rfl) ?_
                    refine WL_nil ?_
                    refine W_ret ?_
                    refine qr1 ?_
                    exact ⟨vint (by rw [hinv, checkL_cons, if_neg (show ¬ (p.kind < 1 ∨ 6 < p.kind) from by omega), if_neg hgood, if_neg htxt, if_pos g51]), hx0⟩
                  · have g51 := Decidable.not_not.1 (of_decide_eq_false h51)
                    refine W_skip ?_
                    refine W_seq ?_
                    refine W_region ?_
                    refine WL_val rfl rfl rfl (st_fieldAddr (off := 4) Tryd.underlying33 rfl rfl ti31 rfl) ?_
                    refine WL_val rfl rfl rfl (st_load ⟨_, Tryd.underlying31, rfl⟩ rfl (hb5.cell 4 rfl)) ?_
                    refine WL_val rfl rfl rfl (st_len Tryd.underlying31 rfl) ?_
                    refine WL_val rfl rfl rfl (st_mv (v := (.int .i64 0)) rfl) ?_
                    refine WL_nil ?_
                    refine W_block ?_
                    refine W_loop [56] [2, 9, 10, 56, 57, 58, 59, 60, 61, 62, 63, 64, 65] (fun m vs w1 => ∃ j : Nat, j + m = p.ways.length ∧ vs = [.int .i64 (j : Int)] ∧ checkW p.ways = checkW (p.ways.drop j) ∧ Ext w19 w1) ?_ ?_
                    · exact ⟨p.ways.length, 0, by omega, rfl, rfl, Ext.refl _⟩
                    · intro m2 vs w21 u hI
                      obtain ⟨j, hj, rfl, hinv2, hx2⟩ := hI
                      have hps1 := hps1.ext hx2
                      have hpw := hpw.ext hx2
                      have hb1 := hb1.ext hx2
                      have hx0 := hx0.ext hx2
                      refine W_seq ?_
                      refine W_region ?_
                      refine WL_val rfl rfl rfl (st_lss rfl rfl) ?_
                      refine WL_nil ?_
                      refine W_seq ?_
                      refine W_cond rfl (fun h57 => ?_) (fun h57 => ?_)
                      · have g57 := of_decide_eq_true h57
                        refine W_skip ?_
                        refine W_seq ?_
                        refine W_block ?_
                        refine W_seq ?_
                        have hj' : j < p.ways.length := by omega
                        obtain ⟨wb, wo, v, hwD, hwa, hwc, hwv⟩ := hpw.at hj'
                        have hdr2 := drop_at hj'
                        have hle2 := cntW_drop p.ways j
                        generalize p.ways[j] = q at hwc hwv hdr2
                        rw [hdr2] at hle2
                        simp only [cntW] at hle2
                        obtain ⟨va, vcp, rfl, hvl⟩ := hwv.form
                        refine W_region ?_
                        refine WL_val rfl rfl rfl (st_indexAddr Tryd.underlying31 ti22 rfl hwa rfl (by omega)) ?_
                        refine WL_val rfl rfl rfl (st_load ⟨_, Tryd.underlying22, rfl⟩ rfl hwc) ?_
                        refine WL_val rfl rfl rfl (st_as (v := .slice _ _ _) rfl) ?_
                        refine WL_nil ?_
                        refine W_seq ?_
                        refine W_region ?_
                        refine WL_val rfl rfl rfl (st_mv (v := .slice _ _ _) rfl) ?_
                        refine WL_call rfl rfl rfl (ih q (by have := p.cnt_eq; omega) D _ _ hwv) (ent_go rfl) ?_
                        rintro _ w22 ⟨rfl, hx23⟩
                        replace hps1 := hps1.ext hx23
                        replace hx0 := hx0.ext hx23
                        replace hpw := hpw.ext hx23
                        replace hb1 := hb1.ext hx23
                        replace hx2 := hx2.ext hx23
                        refine WL_val rfl rfl rfl (st_as (v := .int _ _) rfl) ?_
                        refine WL_nil ?_
                        refine W_seq ?_
                        refine W_region ?_
                        refine WL_val rfl rfl rfl (st_mv (v := .int _ _) rfl) ?_
                        refine WL_val rfl rfl rfl (st_neq rfl rfl) ?_
                        refine WL_nil ?_
                        refine W_cond rfl (fun h63 => ?_) (fun h63 => ?_)
                        · have g63 := of_decide_eq_true h63
                          refine W_seq ?_
                          refine W_region ?_
                          refine WL_val rfl rfl rfl (st_mv (v := .int _ _) rfl) ?_
                          refine WL_val rfl rfl rfl (st_as (v := .int _ _) rfl) ?_
                          refine WL_nil ?_
                          refine W_ret ?_
                          refine qr1 ?_
                          have hq : checkW p.ways = checkL false q := by rw [hinv2, hdr2, checkW_cons, if_pos g63]
                          exact ⟨vint (by rw [hinv, checkL_cons, if_neg (show ¬ (p.kind < 1 ∨ 6 < p.kind) from by omega), if_neg hgood, if_neg htxt, if_neg (by rw [g51]; simp), p.checkIn_eq, hq, if_pos g63]), hx0⟩
                        · have g63 := Decidable.not_not.1 (of_decide_eq_false h63)
                          refine W_skip ?_
                          refine W_region ?_
                          refine WL_val rfl rfl rfl (st_add rfl rfl (by omega) (by omega)) ?_
                          refine WL_val rfl rfl rfl (st_mv (v := .int _ _) rfl) ?_
                          refine WL_nil ?_
                          refine rnd_end ?_ (m2 - 1) ?_ ?_
                          · repeat (first | exact agree_in rfl rfl (agree_refl _ _) | exact agree_refl _ _ | refine agree_in rfl rfl ?_ | refine agree_upd rfl ?_)
                          · omega
                          · refine ⟨j + 1, by omega, vec1 rfl, ?_, hx2⟩
                            rw [hinv2, hdr2, checkW_cons, if_neg (by rw [g63]; simp)]
                      · have g57 := of_decide_eq_false h57
                        have hchk : checkW p.ways = 0 := by rw [hinv2, List.drop_eq_nil_of_le (show p.ways.length ≤ j from by omega), checkW]
                        refine W_exit ?_
                        refine W_region ?_
                        refine WL_val rfl rfl rfl (st_add rfl rfl (by omega) (by omega)) ?_
                        refine WL_val rfl rfl rfl (st_mv (v := .int _ _) rfl) ?_
                        refine WL_nil ?_
                        refine rnd_end ?_ (m - 1) ?_ ?_
                        · repeat (first | exact agree_in rfl rfl (agree_refl _ _) | exact agree_refl _ _ | refine agree_in rfl rfl ?_ | refine agree_upd rfl ?_)
                        · omega
                        · refine ⟨k + 1, by omega, vec1 rfl, ?_, hx0, hb1⟩
                          rw [hinv, checkL_cons, if_neg (show ¬ (p.kind < 1 ∨ 6 < p.kind) from by omega), if_neg hgood, if_neg htxt, if_neg (by rw [g51]; simp), if_neg (by rw [p.checkIn_eq, hchk]; simp)]
                          congr 1
                          rw [show ((k + 1 : Nat) : Int) - 1 = (k : Int) from by omega, hit]
            · have g35 := h35
              refine WL_pass rfl rfl rfl (congrArg Value.bool h35) rfl rfl ?_
              refine WL_pass rfl rfl rfl (congrArg Value.bool h35) rfl rfl ?_
              refine WL_pass rfl rfl rfl (congrArg Value.bool h35) rfl rfl ?_
              refine WL_pass rfl rfl rfl (congrArg Value.bool h35) rfl rfl ?_
              refine WL_pass rfl rfl rfl (congrArg Value.bool h35) rfl rfl ?_
              refine WL_passu rfl rfl rfl rfl rfl ?_
              refine WL_passu rfl rfl rfl rfl rfl ?_
              refine WL_passu rfl rfl rfl rfl rfl ?_
              refine WL_passu rfl rfl rfl rfl rfl ?_
              refine WL_pass rfl rfl rfl (congrArg Value.bool h35) rfl rfl ?_
              refine WL_val rfl rfl rfl (st_pk_f (v := (.bool false)) (congrArg Value.bool h35) rfl) ?_
              refine WL_nil ?_
              refine W_no rfl ?_
              refine W_skip ?_
              refine W_seq ?_
              refine W_seq ?_
              have htxt : ¬ ((isTextP p && (isTextAt ps ((k : Int) - 1) || headText (ps.drop (k + 1)))) = true) := by rw [← hit, ← hin]; simp [h35]
              refine W_region ?_
              refine WL_val rfl rfl rfl (st_fieldAddr (off := 3) Tryd.underlying33 rfl rfl ti30 rfl) ?_
              refine WL_val rfl rfl rfl (st_load ⟨_, Tryd.underlying30, rfl⟩ rfl (hb5.cell 3 rfl)) ?_
              refine WL_call rfl rfl rfl (rangesForm_ok p.ranges D _ _ hpr) (ent_go rfl) ?_
              rintro _ w24 ⟨rfl, hx25⟩
              replace hps1 := hps1.ext hx25
              replace hx0 := hx0.ext hx25
              replace hpw := hpw.ext hx25
              replace hpr := hpr.ext hx25
              replace hb1 := hb1.ext hx25
              replace hb5 := hb5.ext hx25
              refine WL_val rfl rfl rfl (st_as (v := .int _ _) rfl) ?_
              refine WL_nil ?_
              refine W_seq ?_
              refine W_region ?_
              refine WL_val rfl rfl rfl (st_mv (v := .int _ _) rfl) ?_
              refine WL_val rfl rfl rfl (st_neq rfl rfl) ?_
              refine WL_nil ?_
              refine W_cond rfl (fun h51 => ?_) (fun h51 => ?_)
              · have g51 := of_decide_eq_true h51
                refine W_seq ?_
                refine W_region ?_
                refine WL_val rfl rfl rfl (st_mv (v := .int _ _) rfl) ?_
                refine WL_val rfl rfl rfl (st_as (v := .int _ _) rfl) ?_
                refine WL_nil ?_
                refine W_ret ?_
                refine qr1 ?_
                exact ⟨vint (by rw [hinv, checkL_cons, if_neg (show ¬ (p.kind < 1 ∨ 6 < p.kind) from by omega), if_neg hgood, if_neg htxt, if_pos g51]), hx0⟩
              · have g51 := Decidable.not_not.1 (of_decide_eq_false h51)
                refine W_skip ?_
                refine W_seq ?_
                refine W_region ?_
                refine WL_val rfl rfl rfl (st_fieldAddr (off := 4) Tryd.underlying33 rfl rfl ti31 rfl) ?_
                refine WL_val rfl rfl rfl (st_load ⟨_, Tryd.underlying31, rfl⟩ rfl (hb5.cell 4 rfl)) ?_
                refine WL_val rfl rfl rfl (st_len Tryd.underlying31 rfl) ?_
                refine WL_val rfl rfl rfl (st_mv (v := (.int .i64 0)) rfl) ?_
                refine WL_nil ?_
                refine W_block ?_
                refine W_loop [56] [2, 9, 10, 56, 57, 58, 59, 60, 61, 62, 63, 64, 65] (fun m vs w1 => ∃ j : Nat, j + m = p.ways.length ∧ vs = [.int .i64 (j : Int)] ∧ checkW p.ways = checkW (p.ways.drop j) ∧ Ext w24 w1) ?_ ?_
                · exact ⟨p.ways.length, 0, by omega, rfl, rfl, Ext.refl _⟩
                · intro m2 vs w26 u hI
                  obtain ⟨j, hj, rfl, hinv2, hx2⟩ := hI
                  have hps1 := hps1.ext hx2
                  have hpw := hpw.ext hx2
                  have hb1 := hb1.ext hx2
                  have hx0 := hx0.ext hx2
                  refine W_seq ?_
                  refine W_region ?_
                  refine WL_val rfl rfl rfl (st_lss rfl rfl) ?_
                  refine WL_nil ?_
                  refine W_seq ?_
                  refine W_cond rfl (fun h57 => ?_) (fun h57 => ?_)
                  · have g57 := of_decide_eq_true h57
                    refine W_skip ?_
                    refine W_seq ?_
                    refine W_block ?_
                    refine W_seq ?_
                    have hj' : j < p.ways.length := by omega
                    obtain ⟨wb, wo, v, hwD, hwa, hwc, hwv⟩ := hpw.at hj'
                    have hdr2 := drop_at hj'
                    have hle2 := cntW_drop p.ways j
                    generalize p.ways[j] = q at hwc hwv hdr2
                    rw [hdr2] at hle2
                    simp only [cntW] at hle2
                    obtain ⟨va, vcp, rfl, hvl⟩ := hwv.form
                    refine W_region ?_
                    refine WL_val rfl rfl rfl (st_indexAddr Tryd.underlying31 ti22 rfl hwa rfl (by omega)) ?_
                    refine WL_val rfl rfl rfl (st_load ⟨_, Tryd.underlying22, rfl⟩ rfl hwc) ?_
                    refine WL_val rfl rfl rfl (st_as (v := .slice _ _ _) rfl) ?_
                    refine WL_nil ?_
                    refine W_seq ?_
                    refine W_region ?_
                    refine WL_val rfl rfl rfl (st_mv (v := .slice _ _ _) rfl) ?_
                    refine WL_call rfl rfl rfl (ih q (by have := p.cnt_eq; omega) D _ _ hwv) (ent_go rfl) ?_
                    rintro _ w27 ⟨rfl, hx28⟩
                    replace hps1 := hps1.ext hx28
                    replace hx0 := hx0.ext hx28
                    replace hpw := hpw.ext hx28
                    replace hb1 := hb1.ext hx28
                    replace hx2 := hx2.ext hx28
                    refine WL_val rfl rfl rfl (st_as (v := .int _ _) rfl) ?_
                    refine WL_nil ?_
                    refine W_seq ?_
                    refine W_region ?_
                    refine WL_val rfl rfl rfl (st_mv (v := .int _ _) rfl) ?_
                    refine WL_val rfl rfl rfl (st_neq rfl rfl) ?_
                    refine WL_nil ?_
                    refine W_cond rfl (fun h63 => ?_) (fun h63 => ?_)
                    · have g63 := of_decide_eq_true h63
                      refine W_seq ?_
                      refine W_region ?_
                      refine WL_val rfl rfl rfl (st_mv (v := .int _ _) rfl) ?_
                      refine WL_val rfl rfl rfl (st_as (v := .int _ _) rfl) ?_
                      refine WL_nil ?_
                      refine W_ret ?_
                      refine qr1 ?_
                      have hq : checkW p.ways = checkL false q := by rw [hinv2, hdr2, checkW_cons, if_pos g63]
                      exact ⟨vint (by rw [hinv, checkL_cons, if_neg (show ¬ (p.kind < 1 ∨ 6 < p.kind) from by omega), if_neg hgood, if_neg htxt, if_neg (by rw [g51]; simp), p.checkIn_eq, hq, if_pos g63]), hx0⟩
                    · have g63 := Decidable.not_not.1 (of_decide_eq_false h63)
                      refine W_skip ?_
                      refine W_region ?_
                      refine WL_val rfl rfl rfl (st_add rfl rfl (by omega) (by omega)) ?_
                      refine WL_val rfl rfl rfl (st_mv (v := .int _ _) rfl) ?_
                      refine WL_nil ?_
                      refine rnd_end ?_ (m2 - 1) ?_ ?_
                      · repeat (first | exact agree_in rfl rfl (agree_refl _ _) | exact agree_refl _ _ | refine agree_in rfl rfl ?_ | refine agree_upd rfl ?_)
                      · omega
                      · refine ⟨j + 1, by omega, vec1 rfl, ?_, hx2⟩
                        rw [hinv2, hdr2, checkW_cons, if_neg (by rw [g63]; simp)]
                  · have g57 := of_decide_eq_false h57
                    have hchk : checkW p.ways = 0 := by rw [hinv2, List.drop_eq_nil_of_le (show p.ways.length ≤ j from by omega), checkW]
                    refine W_exit ?_
                    refine W_region ?_
                    refine WL_val rfl rfl rfl (st_add rfl rfl (by omega) (by omega)) ?_
                    refine WL_val rfl rfl rfl (st_mv (v := .int _ _) rfl) ?_
                    refine WL_nil ?_
                    refine rnd_end ?_ (m - 1) ?_ ?_
                    · repeat (first | exact agree_in rfl rfl (agree_refl _ _) | exact agree_refl _ _ | refine agree_in rfl rfl ?_ | refine agree_upd rfl ?_)
                    · omega
                    · refine ⟨k + 1, by omega, vec1 rfl, ?_, hx0, hb1⟩
                      rw [hinv, checkL_cons, if_neg (show ¬ (p.kind < 1 ∨ 6 < p.kind) from by omega), if_neg hgood, if_neg htxt, if_neg (by rw [g51]; simp), if_neg (by rw [p.checkIn_eq, hchk]; simp)]
                      congr 1
                      rw [show ((k + 1 : Nat) : Int) - 1 = (k : Int) from by omega, hit]
    · have g15 := of_decide_eq_false h15
      refine W_exit ?_
      refine W_seq ?_
      refine W_region ?_
      refine WL_val rfl rfl rfl (st_as (v := (.int .i64 0)) rfl) ?_
      refine WL_nil ?_
      refine W_ret ?_
      refine qr1 ?_
      rw [List.drop_eq_nil_of_le (by omega)] at hinv
      exact ⟨vint (by rw [hinv, checkL]), hx0⟩
end Go.Proofs.YtndfhicdabdafaaDoor
