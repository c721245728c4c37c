/- Walks of inRanges, oneByte, pass, passAll. -/
import Derived.Test.YtndfhicdabdafaaDoorKe
import Derived.Test.YtndfhicdabdafaaDoorC9
namespace Go.Proofs.YtndfhicdabdafaaDoor
open Go Go.RowKit

theorem inR_cons (r : Int × Int) (rs : List (Int × Int)) (c : UInt8) : inR (r :: rs) c = ((decide (r.1 ≤ (c.toNat : Int)) && decide ((c.toNat : Int) ≤ r.2)) || inR rs c) := rfl
theorem inRanges_ok (rs : List (Int × Int)) (c : UInt8) (D : Nat → Prop) (v : Value) (w : World) (hrs : RangesAt D w v rs) :
    Fun Tryd.prog 72 [v, .int .u8 (c.toNat : Int)] w (fun r w' => r = .bool (inR rs c) ∧ Ext w w') := by
  obtain ⟨a, cp, rfl, hrl⟩ := hrs.form
  have hx0 := Ext.refl w
  refine fun1 Tryd.func72 rfl (by kernel_rfl) rfl rfl rfl ?_
  refine W_seq ?_
  refine W_region ?_
  refine WL_val rfl rfl rfl (st_as (v := (.bool false)) rfl) ?_
  refine WL_nil ?_
  refine W_seq ?_
  refine W_seq ?_
  refine W_region ?_
  refine WL_val rfl rfl rfl (st_mv (v := .slice _ _ _) rfl) ?_
  refine WL_val rfl rfl rfl (st_len Tryd.underlying30 rfl) ?_
  refine WL_val rfl rfl rfl (st_mv (v := (.int .i64 0)) rfl) ?_
  refine WL_nil ?_
  refine W_block ?_
  refine W_loop [9] [4, 6, 9, 10, 11, 12, 13, 14, 15, 16, 17, 18, 19, 20, 21, 22, 23, 24, 25] (fun m vs w1 => ∃ k : Nat, k + m = rs.length ∧ vs = [.int .i64 (k : Int)] ∧ (inR rs c = inR (rs.drop k) c) ∧ Ext w w1) ?_ ?_
  · exact ⟨rs.length, 0, by omega, rfl, rfl, hx0⟩
  · intro m vs w1 u hI
    obtain ⟨k, hk, rfl, hinv, hx0⟩ := hI
    have hrs1 := hrs.ext hx0
    refine W_seq ?_
    refine W_region ?_
    refine WL_val rfl rfl rfl (st_lss rfl rfl) ?_
    refine WL_nil ?_
    refine W_seq ?_
    refine W_cond rfl (fun h10 => ?_) (fun h10 => ?_)
    · have g10 := of_decide_eq_true h10
      refine W_skip ?_
      refine W_seq ?_
      refine W_block ?_
      refine W_seq ?_
      have hk' : k < rs.length := by omega
      obtain ⟨rb, ro, hD, hra, hrc⟩ := RangesAt.at hrs1 hk'
      have hdr := drop_at hk'
      generalize rs[k] = r at hrc hdr
      refine W_region ?_
      refine WL_val rfl rfl rfl (st_indexAddr Tryd.underlying30 ti44 rfl hra rfl (by omega)) ?_
      refine WL_val rfl rfl rfl (st_loada ⟨_, Tryd.underlying44, rfl⟩ ti44 rfl hrc rfl) ?_
      refine WL_ef (ef_alloc ti44) rfl rfl rfl ?_
      rintro _ w3 ⟨b2, rfl, hl6, hb6, hx4⟩
      refine WL_su (su_storea ti44 rfl hb6 rfl rfl (Nat.le_of_ble_eq_true rfl) rfl) rfl rfl ?_
      rintro w5 ⟨hnb, hf6⟩
      have hx7 : Ext w1 w5 := hx4.trans_new hf6 (fun _ h => by subst h; exact hl6)
      clear hb6
      have hb6 : Blk _ _ _ [_, _] := hnb
      clear hnb
      replace hx0 := hx0.ext hx7
      replace hrs1 := hrs1.ext hx7
      refine WL_nil ?_
      refine W_seq ?_
      refine W_region ?_
      refine WL_val rfl rfl rfl (st_mv (v := .int _ _) rfl) ?_
      refine WL_val rfl rfl rfl (st_byte ⟨_, Tryd.underlying5⟩ Tryd.underlying3 rfl) ?_
      refine WL_val rfl rfl rfl (st_indexAddra (i := 0) Tryd.underlying44 ti3 rfl rfl (by omega)) ?_
      refine WL_val rfl rfl rfl (st_load ⟨_, Tryd.underlying3, rfl⟩ rfl (hb6.cell 0 rfl)) ?_
      refine WL_val rfl rfl rfl (st_geq rfl rfl) ?_
      refine WL_val rfl rfl rfl (st_mv (v := .bool _) rfl) ?_
      refine WL_split 18 rfl (fun h18 => ?_) (fun h18 => ?_)
      · have g18 := of_decide_eq_true h18
        refine WL_valg rfl rfl rfl (congrArg Value.bool h18) rfl rfl (st_mv (v := .int _ _) rfl) ?_
        refine WL_valg rfl rfl rfl (congrArg Value.bool h18) rfl rfl (st_byte ⟨_, Tryd.underlying5⟩ Tryd.underlying3 rfl) ?_
        refine WL_valg rfl rfl rfl (congrArg Value.bool h18) rfl rfl (st_indexAddra (i := 1) Tryd.underlying44 ti3 rfl rfl (by omega)) ?_
        refine WL_valg rfl rfl rfl (congrArg Value.bool h18) rfl rfl (st_load ⟨_, Tryd.underlying3, rfl⟩ rfl (hb6.cell 1 rfl)) ?_
        refine WL_valg rfl rfl rfl (congrArg Value.bool h18) rfl rfl (st_leq rfl rfl) ?_
        refine WL_val rfl rfl rfl (st_pk_t (v := .bool _) (congrArg Value.bool h18) rfl) ?_
        refine WL_nil ?_
        refine W_cond rfl (fun h24 => ?_) (fun h24 => ?_)
        · have g24 := of_decide_eq_true h24
          refine W_seq ?_
          refine W_region ?_
          refine WL_val rfl rfl rfl (st_as (v := (.bool true)) rfl) ?_
          refine WL_nil ?_
          refine W_ret ?_
          refine qr1 ?_
          exact ⟨vbool (by rw [hinv, hdr, inR_cons, of_decide_eq_true h18 |> decide_eq_true, g24 |> decide_eq_true]; rfl), hx0⟩
        · have g24 := of_decide_eq_false h24
          refine W_skip ?_
          have hno : (decide (r.1 ≤ (c.toNat : Int)) && decide ((c.toNat : Int) ≤ r.2)) = false := by rw [decide_eq_false g24, Bool.and_false]
          refine W_region ?_
          refine WL_val rfl rfl rfl (st_add rfl rfl (by omega) (by omega)) ?_
          refine WL_val rfl rfl rfl (st_mv (v := .int _ _) rfl) ?_
          refine WL_nil ?_
          refine rnd_end ?_ (m - 1) ?_ ?_
          · repeat (first | exact agree_in rfl rfl (agree_refl _ _) | exact agree_refl _ _ | refine agree_in rfl rfl ?_ | refine agree_upd rfl ?_)
          · omega
          · exact ⟨k + 1, by omega, vec1 rfl, by rw [hinv, hdr, inR_cons, hno, Bool.false_or], hx0⟩
      · have g18 := of_decide_eq_false h18
        refine WL_pass rfl rfl rfl (congrArg Value.bool h18) rfl rfl ?_
        refine WL_pass rfl rfl rfl (congrArg Value.bool h18) rfl rfl ?_
        refine WL_pass rfl rfl rfl (congrArg Value.bool h18) rfl rfl ?_
        refine WL_pass rfl rfl rfl (congrArg Value.bool h18) rfl rfl ?_
        refine WL_pass rfl rfl rfl (congrArg Value.bool h18) rfl rfl ?_
        refine WL_val rfl rfl rfl (st_pk_f (v := (.bool false)) (congrArg Value.bool h18) rfl) ?_
        refine WL_nil ?_
        refine W_no rfl ?_
        refine W_skip ?_
        have hno : (decide (r.1 ≤ (c.toNat : Int)) && decide ((c.toNat : Int) ≤ r.2)) = false := by rw [h18, Bool.false_and]
        refine W_region ?_
        refine WL_val rfl rfl rfl (st_add rfl rfl (by omega) (by omega)) ?_
        refine WL_val rfl rfl rfl (st_mv (v := .int _ _) rfl) ?_
        refine WL_nil ?_
        refine rnd_end ?_ (m - 1) ?_ ?_
        · repeat (first | exact agree_in rfl rfl (agree_refl _ _) | exact agree_refl _ _ | refine agree_in rfl rfl ?_ | refine agree_upd rfl ?_)
        · omega
        · exact ⟨k + 1, by omega, vec1 rfl, by rw [hinv, hdr, inR_cons, hno, Bool.false_or], hx0⟩
    · have g10 := of_decide_eq_false h10
      refine W_exit ?_
      refine W_seq ?_
      refine W_region ?_
      refine WL_val rfl rfl rfl (st_as (v := (.bool false)) rfl) ?_
      refine WL_nil ?_
      refine W_ret ?_
      refine qr1 ?_
      rw [List.drop_eq_nil_of_le (by omega)] at hinv
      exact ⟨vbool (by rw [hinv]; rfl), hx0⟩
theorem oneC (c : UInt8) : decide (c ≠ 47) = decide ((c.toNat : Int) ≠ 47) := by
  have e1 : (47 : UInt8).toNat = 47 := rfl
  refine decide_eq_decide.2 (not_congr ?_)
  rw [← UInt8.toNat_inj, e1]
  omega
theorem oneByte_ok (p : Part) (c : UInt8) (D : Nat → Prop) (ra wa : Option Addr) (rc wc : Nat) (w : World) (hpr : RangesAt D w (.slice ra p.ranges.length rc) p.ranges) :
    Fun Tryd.prog 60 [.agg #[.int .i64 p.kind, .string p.text, .bool p.neg, .slice ra p.ranges.length rc, .slice wa p.ways.length wc], .int .u8 (c.toNat : Int)] w (fun r w' => r = .bool (oneB p c) ∧ Ext w w') := by
  have hx0 := Ext.refl w
  refine fun1 Tryd.func60 rfl (by kernel_rfl) rfl rfl rfl ?_
  refine W_seq ?_
  refine W_region ?_
  refine WL_ef (ef_box (cs := [_, _, _, _, _]) rfl) rfl rfl rfl ?_
  rintro _ w2 ⟨b1, rfl, hl2, hb2, hx3⟩
  replace hx0 := hx0.ext hx3
  replace hpr := hpr.ext hx3
  refine WL_val rfl rfl rfl (st_as (v := (.bool false)) rfl) ?_
  refine WL_nil ?_
  refine W_seq ?_
  refine W_quiet (Ext w2) mixed (by kernel_rfl) ((Ext.refl _).drew _) ?_
  refine WQ_val rfl rfl rfl (fun _ _ => st_mv (v := .int _ _) rfl) ?_
  refine WQ_val rfl rfl rfl (fun _ _ => st_neq rfl rfl) ?_
  refine WQ_val rfl rfl rfl (fun _ _ => st_mv (v := .bool _) rfl) ?_
  refine WQ_split 7 rfl (fun h7 => ?_) (fun h7 => ?_)
  · have g7 := of_decide_eq_true h7
    refine WQ_valg rfl rfl rfl (congrArg Value.bool h7) rfl rfl (fun _ _ => st_fieldAddr (off := 0) Tryd.underlying33 rfl rfl ti3 rfl) ?_
    refine WQ_valg rfl rfl rfl (congrArg Value.bool h7) rfl rfl (fun w' hx' => st_load ⟨_, Tryd.underlying3, rfl⟩ rfl (hx'.cell (hb2.cell 0 rfl))) ?_
    refine WQ_valg rfl rfl rfl (congrArg Value.bool h7) rfl rfl (fun _ _ => st_eql rfl rfl) ?_
    refine WQ_valg rfl rfl rfl (congrArg Value.bool h7) rfl rfl (fun _ _ => st_mv (v := .bool _) rfl) ?_
    refine WQ_split 11 rfl (fun h11 => ?_) (fun h11 => ?_)
    · have g11 := of_decide_eq_true h11
      refine WQ_pass rfl rfl rfl (congrArg Value.bool h11) rfl rfl ?_
      refine WQ_pass rfl rfl rfl (congrArg Value.bool h11) rfl rfl ?_
      refine WQ_pass rfl rfl rfl (congrArg Value.bool h11) rfl rfl ?_
      refine WQ_pass rfl rfl rfl (congrArg Value.bool h11) rfl rfl ?_
      refine WQ_pass rfl rfl rfl (congrArg Value.bool h11) rfl rfl ?_
      refine WQ_pass rfl rfl rfl (congrArg Value.bool h11) rfl rfl ?_
      refine WQ_pass rfl rfl rfl (congrArg Value.bool h11) rfl rfl ?_
      refine WQ_valg rfl rfl rfl (congrArg Value.bool h7) rfl rfl (fun _ _ => st_pk_t (v := (.bool true)) (congrArg Value.bool h11) rfl) ?_
      refine WQ_val rfl rfl rfl (fun _ _ => st_pk_t (v := .bool _) (congrArg Value.bool h7) rfl) ?_
      refine WQ_val rfl rfl rfl (fun _ _ => st_as (v := .bool _) rfl) ?_
      refine WQ_nil ?_
      intro w4 hx5
      replace hx0 := hx0.ext hx5
      replace hpr := hpr.ext hx5
      replace hb2 := hb2.ext hx5
      refine W_ret ?_
      refine qr1 ?_
      exact ⟨vbool (by unfold oneB; rw [oneC c, h7, h11]; rfl), hx0⟩
    · have g11 := of_decide_eq_false h11
      refine WQ_valg rfl rfl rfl (congrArg Value.bool h11) rfl rfl (fun _ _ => st_fieldAddr (off := 3) Tryd.underlying33 rfl rfl ti30 rfl) ?_
      refine WQ_valg rfl rfl rfl (congrArg Value.bool h11) rfl rfl (fun w' hx' => st_load ⟨_, Tryd.underlying30, rfl⟩ rfl (hx'.cell (hb2.cell 3 rfl))) ?_
      refine WQ_valg rfl rfl rfl (congrArg Value.bool h11) rfl rfl (fun _ _ => st_mv (v := .int _ _) rfl) ?_
      refine WQ_callg rfl rfl rfl (congrArg Value.bool h11) rfl rfl (fun w' hx' => ((inRanges_ok p.ranges c D _ w' (hpr.ext hx')).mono (by rintro _ _ ⟨rfl, hy⟩; exact ⟨rfl, Fro.trans hx' hy⟩))) (fun h _ => (ent_go rfl) h) ?_
      refine WQ_valg rfl rfl rfl (congrArg Value.bool h11) rfl rfl (fun _ _ => st_fieldAddr (off := 2) Tryd.underlying33 rfl rfl ti4 rfl) ?_
      refine WQ_valg rfl rfl rfl (congrArg Value.bool h11) rfl rfl (fun w' hx' => st_load ⟨_, Tryd.underlying4, rfl⟩ rfl (hx'.cell (hb2.cell 2 rfl))) ?_
      refine WQ_valg rfl rfl rfl (congrArg Value.bool h11) rfl rfl (fun _ _ => st_neqb Tryd.underlying4 rfl rfl) ?_
      refine WQ_valg rfl rfl rfl (congrArg Value.bool h7) rfl rfl (fun _ _ => st_pk_f (v := .bool _) (congrArg Value.bool h11) rfl) ?_
      refine WQ_val rfl rfl rfl (fun _ _ => st_pk_t (v := .bool _) (congrArg Value.bool h7) rfl) ?_
      refine WQ_val rfl rfl rfl (fun _ _ => st_as (v := .bool _) rfl) ?_
      refine WQ_nil ?_
      intro w6 hx7
      replace hx0 := hx0.ext hx7
      replace hpr := hpr.ext hx7
      replace hb2 := hb2.ext hx7
      refine W_ret ?_
      refine qr1 ?_
      exact ⟨vbool (by unfold oneB; rw [oneC c, h7, h11]; simp [bne]), hx0⟩
  · have g7 := of_decide_eq_false h7
    refine WQ_pass rfl rfl rfl (congrArg Value.bool h7) rfl rfl ?_
    refine WQ_pass rfl rfl rfl (congrArg Value.bool h7) rfl rfl ?_
    refine WQ_pass rfl rfl rfl (congrArg Value.bool h7) rfl rfl ?_
    refine WQ_pass rfl rfl rfl (congrArg Value.bool h7) rfl rfl ?_
    refine WQ_passu rfl rfl rfl rfl rfl ?_
    refine WQ_passu rfl rfl rfl rfl rfl ?_
    refine WQ_passu rfl rfl rfl rfl rfl ?_
    refine WQ_passu rfl rfl rfl rfl rfl ?_
    refine WQ_passu rfl rfl rfl rfl rfl ?_
    refine WQ_passu rfl rfl rfl rfl rfl ?_
    refine WQ_passu rfl rfl rfl rfl rfl ?_
    refine WQ_pass rfl rfl rfl (congrArg Value.bool h7) rfl rfl ?_
    refine WQ_val rfl rfl rfl (fun _ _ => st_pk_f (v := (.bool false)) (congrArg Value.bool h7) rfl) ?_
    refine WQ_val rfl rfl rfl (fun _ _ => st_as (v := .bool _) rfl) ?_
    refine WQ_nil ?_
    intro w8 hx9
    replace hx0 := hx0.ext hx9
    replace hpr := hpr.ext hx9
    replace hb2 := hb2.ext hx9
    refine W_ret ?_
    refine qr1 ?_
    exact ⟨vbool (by unfold oneB; rw [oneC c, h7]; rfl), hx0⟩
end Go.Proofs.YtndfhicdabdafaaDoor
