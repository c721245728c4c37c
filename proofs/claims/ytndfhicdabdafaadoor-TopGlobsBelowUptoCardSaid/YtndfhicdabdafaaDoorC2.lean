/- Walks of the small checks: bytes in texts, the form of a part, ranges, stars. -/
import Derived.Test.YtndfhicdabdafaaDoorS
import Derived.Test.YtndfhicdabdafaaDoorKc
import Derived.Test.YtndfhicdabdafaaDoorKt
namespace Go.Proofs.YtndfhicdabdafaaDoor
open Go Go.RowKit

theorem ext_indexByte (s : ByteArray) (c : UInt8) (w : World) : (callFunc 78 #[.string s, .int .u8 (c.toNat : Int)]).run Tryd.prog w = .ok (.value (.int .i64 (firstIdx s c))) w := by
  have h := run_callFunc_indexByte (P := Tryd.prog) Tryd.func78 (by kernel_rfl) rfl (by kernel_rfl) (by kernel_rfl) #[.string s, .int .u8 (c.toNat : Int)] w
  rw [h, run_indexByte_string]
  simp
theorem lite_indexByte (s : ByteArray) (c : UInt8) (w : World) : Fun Tryd.prog 70 [.string s, .int .u8 (c.toNat : Int)] w (fun r w' => r = .int .i64 (firstIdx s c) ∧ w = w') := by
  refine fun1 Tryd.func70 rfl (by kernel_rfl) rfl rfl rfl ?_
  refine W_seq ?_
  refine W_region ?_
  refine WL_val rfl rfl rfl (st_as (v := (.int .i64 0)) rfl) ?_
  refine WL_nil ?_
  refine W_seq ?_
  refine W_region ?_
  refine WL_val rfl rfl rfl (st_mv (v := .string _) rfl) ?_
  refine WL_val rfl rfl rfl (st_mv (v := .int _ _) rfl) ?_
  refine WL_val rfl rfl rfl (st_ext rfl (ext_indexByte s c w)) ?_
  refine WL_val rfl rfl rfl (st_as (v := .int _ _) rfl) ?_
  refine WL_nil ?_
  refine W_ret ?_
  refine qr1 ?_
  exact ⟨rfl, rfl⟩
theorem str_indexByte (s : ByteArray) (c : UInt8) (w : World) : Fun Tryd.prog 53 [.string s, .int .u8 (c.toNat : Int)] w (fun r w' => r = .int .i64 (firstIdx s c) ∧ w = w') := by
  refine fun1 Tryd.func53 rfl (by kernel_rfl) rfl rfl rfl ?_
  refine W_seq ?_
  refine W_region ?_
  refine WL_val rfl rfl rfl (st_as (v := (.int .i64 0)) rfl) ?_
  refine WL_nil ?_
  refine W_seq ?_
  refine W_region ?_
  refine WL_val rfl rfl rfl (st_mv (v := .string _) rfl) ?_
  refine WL_val rfl rfl rfl (st_mv (v := .int _ _) rfl) ?_
  refine WL_call rfl rfl rfl (lite_indexByte s c w) (ent_go rfl) ?_
  rintro _ w1 ⟨rfl, rfl⟩
  refine WL_val rfl rfl rfl (st_as (v := .int _ _) rfl) ?_
  refine WL_nil ?_
  refine W_ret ?_
  refine qr1 ?_
  exact ⟨rfl, rfl⟩
theorem hasByte_ok (s : ByteArray) (c : UInt8) (w : World) : Fun Tryd.prog 37 [.string s, .int .u8 (c.toNat : Int)] w (fun r w' => r = .bool (decide (c ∈ byts s)) ∧ w = w') := by
  refine fun1 Tryd.func37 rfl (by kernel_rfl) rfl rfl rfl ?_
  refine W_seq ?_
  refine W_region ?_
  refine WL_val rfl rfl rfl (st_as (v := (.bool false)) rfl) ?_
  refine WL_nil ?_
  refine W_seq ?_
  refine W_region ?_
  refine WL_val rfl rfl rfl (st_mv (v := .string _) rfl) ?_
  refine WL_val rfl rfl rfl (st_mv (v := .int _ _) rfl) ?_
  refine WL_call rfl rfl rfl (str_indexByte s c w) (ent_go rfl) ?_
  rintro _ w1 ⟨rfl, rfl⟩
  refine WL_val rfl rfl rfl (st_geq rfl rfl) ?_
  refine WL_val rfl rfl rfl (st_as (v := .bool _) rfl) ?_
  refine WL_nil ?_
  refine W_ret ?_
  refine qr1 ?_
  exact ⟨vbool (decide_eq_decide.2 (firstIdx_iff s c)), rfl⟩
def formF (p : Part) : Int := if badB p then 6 else 0
set_option maxHeartbeats 1000000 in
theorem partForm_ok (p : Part) (ra wa : Option Addr) (rc wc : Nat) (w : World) :
    Fun Tryd.prog 22 [.agg #[.int .i64 p.kind, .string p.text, .bool p.neg, .slice ra p.ranges.length rc, .slice wa p.ways.length wc]] w (fun r w' => r = .int .i64 (formF p) ∧ Ext w w') := by
  have hx0 := Ext.refl w
  refine fun1 Tryd.func22 rfl (by kernel_rfl) rfl rfl rfl ?_
  refine W_seq ?_
  refine W_region ?_
  refine WL_ef (ef_box (cs := [_, _, _, _, _]) rfl) rfl rfl rfl ?_
  rintro _ w2 ⟨b1, rfl, hl1, hb1, hx3⟩
  replace hx0 := hx0.ext hx3
  refine WL_val rfl rfl rfl (st_as (v := (.int .i64 0)) rfl) ?_
  refine WL_nil ?_
  refine W_seq ?_
  refine W_quiet (Ext w2) mixed (by kernel_rfl) ((Ext.refl _).drew _) ?_
  refine WQ_val rfl rfl rfl (fun _ _ => st_fieldAddr (off := 1) Tryd.underlying33 rfl rfl ti9 rfl) ?_
  refine WQ_val rfl rfl rfl (fun w' hx' => st_load ⟨_, Tryd.underlying9, rfl⟩ rfl (hx'.cell (hb1.cell 1 rfl))) ?_
  refine WQ_val rfl rfl rfl (fun _ _ => st_neqs rfl rfl) ?_
  refine WQ_val rfl rfl rfl (fun _ _ => st_fieldAddr (off := 2) Tryd.underlying33 rfl rfl ti4 rfl) ?_
  refine WQ_val rfl rfl rfl (fun w' hx' => st_load ⟨_, Tryd.underlying4, rfl⟩ rfl (hx'.cell (hb1.cell 2 rfl))) ?_
  refine WQ_val rfl rfl rfl (fun _ _ => st_mv (v := .bool _) rfl) ?_
  refine WQ_split 12 rfl (fun h12 => ?_) (fun h12 => ?_)
  · have g12 := h12
    refine WQ_pass rfl rfl rfl (congrArg Value.bool h12) rfl rfl ?_
    refine WQ_pass rfl rfl rfl (congrArg Value.bool h12) rfl rfl ?_
    refine WQ_pass rfl rfl rfl (congrArg Value.bool h12) rfl rfl ?_
    refine WQ_pass rfl rfl rfl (congrArg Value.bool h12) rfl rfl ?_
    refine WQ_val rfl rfl rfl (fun _ _ => st_pk_t (v := (.bool true)) (congrArg Value.bool h12) rfl) ?_
    refine WQ_val rfl rfl rfl (fun _ _ => st_fieldAddr (off := 4) Tryd.underlying33 rfl rfl ti31 rfl) ?_
    refine WQ_val rfl rfl rfl (fun w' hx' => st_load ⟨_, Tryd.underlying31, rfl⟩ rfl (hx'.cell (hb1.cell 4 rfl))) ?_
    refine WQ_val rfl rfl rfl (fun _ _ => st_len Tryd.underlying31 rfl) ?_
    refine WQ_val rfl rfl rfl (fun _ _ => st_gtr rfl rfl) ?_
    refine WQ_val rfl rfl rfl (fun _ _ => st_as (v := .bool _) rfl) ?_
    refine WQ_val rfl rfl rfl (fun _ _ => st_as (v := .bool _) rfl) ?_
    refine WQ_val rfl rfl rfl (fun _ _ => st_as (v := .bool _) rfl) ?_
    refine WQ_nil ?_
    intro w4 hx5
    replace hx0 := hx0.ext hx5
    replace hb1 := hb1.ext hx5
    refine W_seq ?_
    refine W_region ?_
    refine WL_val rfl rfl rfl (st_as (v := (.bool false)) rfl) ?_
    refine WL_nil ?_
    refine W_seq ?_
    refine W_seq ?_
    refine W_region ?_
    refine WL_val rfl rfl rfl (st_fieldAddr (off := 0) Tryd.underlying33 rfl rfl ti3 rfl) ?_
    refine WL_val rfl rfl rfl (st_load ⟨_, Tryd.underlying3, rfl⟩ rfl (hb1.cell 0 rfl)) ?_
    refine WL_nil ?_
    refine W_block ?_
    refine W_seq ?_
    refine W_region ?_
    refine WL_val rfl rfl rfl (st_eql rfl rfl) ?_
    refine WL_val rfl rfl rfl (st_as (v := .bool _) rfl) ?_
    refine WL_nil ?_
    refine W_cond rfl (fun h31 => ?_) (fun h31 => ?_)
    · have g31 := of_decide_eq_true h31
      refine W_region ?_
      refine WL_val rfl rfl rfl (st_mv (v := .bool _) rfl) ?_
      refine WL_val rfl rfl rfl (st_mv (v := .bool _) rfl) ?_
      refine WL_pass rfl rfl rfl rfl rfl rfl ?_
      refine WL_val rfl rfl rfl (st_pk_t (v := (.bool true)) rfl rfl) ?_
      refine WL_val rfl rfl rfl (st_mv (v := .bool _) rfl) ?_
      refine WL_pass rfl rfl rfl rfl rfl rfl ?_
      refine WL_pass rfl rfl rfl rfl rfl rfl ?_
      refine WL_val rfl rfl rfl (st_pk_t (v := (.bool true)) rfl rfl) ?_
      refine WL_val rfl rfl rfl (st_mv (v := .bool _) rfl) ?_
      refine WL_pass rfl rfl rfl rfl rfl rfl ?_
      refine WL_pass rfl rfl rfl rfl rfl rfl ?_
      refine WL_pass rfl rfl rfl rfl rfl rfl ?_
      refine WL_val rfl rfl rfl (st_pk_t (v := (.bool true)) rfl rfl) ?_
      refine WL_val rfl rfl rfl (st_as (v := .bool _) rfl) ?_
      refine WL_nil ?_
      refine W_seq ?_
      refine W_seq ?_
      refine W_region ?_
      refine WL_val rfl rfl rfl (st_mv (v := .bool _) rfl) ?_
      refine WL_nil ?_
      refine W_yes rfl ?_
      refine W_seq ?_
      refine W_region ?_
      refine WL_val rfl rfl rfl (st_as (v := (.int .i64 6)) rfl) ?_
      refine WL_nil ?_
      refine W_ret ?_
      refine qr1 ?_
      exact ⟨vint (by clear hb1 hx0; simp_all [formF, badB]), hx0⟩
    · have g31 := of_decide_eq_false h31
      refine W_seq ?_
      refine W_region ?_
      refine WL_val rfl rfl rfl (st_eql rfl rfl) ?_
      refine WL_val rfl rfl rfl (st_as (v := .bool _) rfl) ?_
      refine WL_nil ?_
      refine W_cond rfl (fun h46 => ?_) (fun h46 => ?_)
      · have g46 := of_decide_eq_true h46
        refine W_region ?_
        refine WL_val rfl rfl rfl (st_mv (v := .bool _) rfl) ?_
        refine WL_val rfl rfl rfl (st_mv (v := .bool _) rfl) ?_
        refine WL_split 49 rfl (fun h49 => ?_) (fun h49 => ?_)
        · have g49 := of_decide_eq_false (not_t h49)
          refine WL_pass rfl rfl rfl (congrArg Value.bool h49) rfl rfl ?_
          refine WL_val rfl rfl rfl (st_pk_t (v := (.bool true)) (congrArg Value.bool h49) rfl) ?_
          refine WL_val rfl rfl rfl (st_mv (v := .bool _) rfl) ?_
          refine WL_pass rfl rfl rfl rfl rfl rfl ?_
          refine WL_pass rfl rfl rfl rfl rfl rfl ?_
          refine WL_pass rfl rfl rfl rfl rfl rfl ?_
          refine WL_pass rfl rfl rfl rfl rfl rfl ?_
          refine WL_val rfl rfl rfl (st_pk_t (v := (.bool true)) rfl rfl) ?_
          refine WL_val rfl rfl rfl (st_as (v := .bool _) rfl) ?_
          refine WL_nil ?_
          refine W_seq ?_
          refine W_seq ?_
          refine W_region ?_
          refine WL_val rfl rfl rfl (st_mv (v := .bool _) rfl) ?_
          refine WL_nil ?_
          refine W_yes rfl ?_
          refine W_seq ?_
          refine W_region ?_
          refine WL_val rfl rfl rfl (st_as (v := (.int .i64 6)) rfl) ?_
          refine WL_nil ?_
          refine W_ret ?_
          refine qr1 ?_
          exact ⟨vint (by clear hb1 hx0; simp_all [formF, badB]), hx0⟩
        · have g49 := of_decide_eq_true (not_f h49)
          refine WL_valg rfl rfl rfl (congrArg Value.bool h49) rfl rfl (st_mv (v := .bool _) rfl) ?_
          refine WL_val rfl rfl rfl (st_pk_f (v := .bool _) (congrArg Value.bool h49) rfl) ?_
          refine WL_val rfl rfl rfl (st_mv (v := .bool _) rfl) ?_
          refine WL_split 52 rfl (fun h52 => ?_) (fun h52 => ?_)
          · have g52 := of_decide_eq_true h52
            refine WL_pass rfl rfl rfl (congrArg Value.bool h52) rfl rfl ?_
            refine WL_pass rfl rfl rfl (congrArg Value.bool h52) rfl rfl ?_
            refine WL_pass rfl rfl rfl (congrArg Value.bool h52) rfl rfl ?_
            refine WL_pass rfl rfl rfl (congrArg Value.bool h52) rfl rfl ?_
            refine WL_val rfl rfl rfl (st_pk_t (v := (.bool true)) (congrArg Value.bool h52) rfl) ?_
            refine WL_val rfl rfl rfl (st_as (v := .bool _) rfl) ?_
            refine WL_nil ?_
            refine W_seq ?_
            refine W_seq ?_
            refine W_region ?_
            refine WL_val rfl rfl rfl (st_mv (v := .bool _) rfl) ?_
            refine WL_nil ?_
            refine W_yes rfl ?_
            refine W_seq ?_
            refine W_region ?_
            refine WL_val rfl rfl rfl (st_as (v := (.int .i64 6)) rfl) ?_
            refine WL_nil ?_
            refine W_ret ?_
            refine qr1 ?_
            exact ⟨vint (by clear hb1 hx0; simp_all [formF, badB]), hx0⟩
          · have g52 := of_decide_eq_false h52
            refine WL_valg rfl rfl rfl (congrArg Value.bool h52) rfl rfl (st_fieldAddr (off := 3) Tryd.underlying33 rfl rfl ti30 rfl) ?_
            refine WL_valg rfl rfl rfl (congrArg Value.bool h52) rfl rfl (st_load ⟨_, Tryd.underlying30, rfl⟩ rfl (hb1.cell 3 rfl)) ?_
            refine WL_valg rfl rfl rfl (congrArg Value.bool h52) rfl rfl (st_len Tryd.underlying30 rfl) ?_
            refine WL_valg rfl rfl rfl (congrArg Value.bool h52) rfl rfl (st_eql rfl rfl) ?_
            refine WL_val rfl rfl rfl (st_pk_f (v := .bool _) (congrArg Value.bool h52) rfl) ?_
            refine WL_val rfl rfl rfl (st_as (v := .bool _) rfl) ?_
            refine WL_nil ?_
            refine W_seq ?_
            refine W_seq ?_
            refine W_region ?_
            refine WL_val rfl rfl rfl (st_mv (v := .bool _) rfl) ?_
            refine WL_nil ?_
            refine W_cond rfl (fun h68 => ?_) (fun h68 => ?_)
            · have g68 := of_decide_eq_true h68
              refine W_seq ?_
              refine W_region ?_
              refine WL_val rfl rfl rfl (st_as (v := (.int .i64 6)) rfl) ?_
              refine WL_nil ?_
              refine W_ret ?_
              refine qr1 ?_
              exact ⟨vint (by clear hb1 hx0; simp_all [formF, badB]), hx0⟩
            · have g68 := of_decide_eq_false h68
              refine W_skip ?_
              refine W_seq ?_
              refine W_region ?_
              refine WL_val rfl rfl rfl (st_as (v := (.int .i64 0)) rfl) ?_
              refine WL_nil ?_
              refine W_ret ?_
              refine qr1 ?_
              exact ⟨vint (by clear hb1 hx0; simp_all [formF, badB]), hx0⟩
      · have g46 := of_decide_eq_false h46
        refine W_seq ?_
        refine W_region ?_
        refine WL_val rfl rfl rfl (st_eql rfl rfl) ?_
        refine WL_val rfl rfl rfl (st_as (v := .bool _) rfl) ?_
        refine WL_nil ?_
        refine W_cond rfl (fun h58 => ?_) (fun h58 => ?_)
        · have g58 := of_decide_eq_true h58
          refine W_region ?_
          refine WL_val rfl rfl rfl (st_mv (v := .bool _) rfl) ?_
          refine WL_val rfl rfl rfl (st_mv (v := .bool _) rfl) ?_
          refine WL_split 61 rfl (fun h61 => ?_) (fun h61 => ?_)
          · have g61 := of_decide_eq_false (not_t h61)
            refine WL_pass rfl rfl rfl (congrArg Value.bool h61) rfl rfl ?_
            refine WL_val rfl rfl rfl (st_pk_t (v := (.bool true)) (congrArg Value.bool h61) rfl) ?_
            refine WL_val rfl rfl rfl (st_mv (v := .bool _) rfl) ?_
            refine WL_pass rfl rfl rfl rfl rfl rfl ?_
            refine WL_pass rfl rfl rfl rfl rfl rfl ?_
            refine WL_val rfl rfl rfl (st_pk_t (v := (.bool true)) rfl rfl) ?_
            refine WL_val rfl rfl rfl (st_as (v := .bool _) rfl) ?_
            refine WL_nil ?_
            refine W_seq ?_
            refine W_seq ?_
            refine W_region ?_
            refine WL_val rfl rfl rfl (st_mv (v := .bool _) rfl) ?_
            refine WL_nil ?_
            refine W_yes rfl ?_
            refine W_seq ?_
            refine W_region ?_
            refine WL_val rfl rfl rfl (st_as (v := (.int .i64 6)) rfl) ?_
            refine WL_nil ?_
            refine W_ret ?_
            refine qr1 ?_
            exact ⟨vint (by clear hb1 hx0; simp_all [formF, badB]), hx0⟩
          · have g61 := of_decide_eq_true (not_f h61)
            refine WL_valg rfl rfl rfl (congrArg Value.bool h61) rfl rfl (st_mv (v := .bool _) rfl) ?_
            refine WL_val rfl rfl rfl (st_pk_f (v := .bool _) (congrArg Value.bool h61) rfl) ?_
            refine WL_val rfl rfl rfl (st_mv (v := .bool _) rfl) ?_
            refine WL_pass rfl rfl rfl rfl rfl rfl ?_
            refine WL_pass rfl rfl rfl rfl rfl rfl ?_
            refine WL_val rfl rfl rfl (st_pk_t (v := (.bool true)) rfl rfl) ?_
            refine WL_val rfl rfl rfl (st_as (v := .bool _) rfl) ?_
            refine WL_nil ?_
            refine W_seq ?_
            refine W_seq ?_
            refine W_region ?_
            refine WL_val rfl rfl rfl (st_mv (v := .bool _) rfl) ?_
            refine WL_nil ?_
            refine W_yes rfl ?_
            refine W_seq ?_
            refine W_region ?_
            refine WL_val rfl rfl rfl (st_as (v := (.int .i64 6)) rfl) ?_
            refine WL_nil ?_
            refine W_ret ?_
            refine qr1 ?_
            exact ⟨vint (by clear hb1 hx0; simp_all [formF, badB]), hx0⟩
        · have g58 := of_decide_eq_false h58
          refine W_region ?_
          refine WL_val rfl rfl rfl (st_mv (v := .bool _) rfl) ?_
          refine WL_val rfl rfl rfl (st_mv (v := .bool _) rfl) ?_
          refine WL_split 25 rfl (fun h25 => ?_) (fun h25 => ?_)
          · have g25 := of_decide_eq_false (not_t h25)
            refine WL_pass rfl rfl rfl (congrArg Value.bool h25) rfl rfl ?_
            refine WL_val rfl rfl rfl (st_pk_t (v := (.bool true)) (congrArg Value.bool h25) rfl) ?_
            refine WL_val rfl rfl rfl (st_mv (v := .bool _) rfl) ?_
            refine WL_pass rfl rfl rfl rfl rfl rfl ?_
            refine WL_val rfl rfl rfl (st_pk_t (v := (.bool true)) rfl rfl) ?_
            refine WL_val rfl rfl rfl (st_as (v := .bool _) rfl) ?_
            refine WL_nil ?_
            refine W_seq ?_
            refine W_seq ?_
            refine W_region ?_
            refine WL_val rfl rfl rfl (st_mv (v := .bool _) rfl) ?_
            refine WL_nil ?_
            refine W_yes rfl ?_
            refine W_seq ?_
            refine W_region ?_
            refine WL_val rfl rfl rfl (st_as (v := (.int .i64 6)) rfl) ?_
            refine WL_nil ?_
            refine W_ret ?_
            refine qr1 ?_
            exact ⟨vint (by clear hb1 hx0; simp_all [formF, badB]), hx0⟩
          · have g25 := of_decide_eq_true (not_f h25)
            refine WL_valg rfl rfl rfl (congrArg Value.bool h25) rfl rfl (st_mv (v := .bool _) rfl) ?_
            refine WL_val rfl rfl rfl (st_pk_f (v := .bool _) (congrArg Value.bool h25) rfl) ?_
            refine WL_val rfl rfl rfl (st_mv (v := .bool _) rfl) ?_
            refine WL_pass rfl rfl rfl rfl rfl rfl ?_
            refine WL_val rfl rfl rfl (st_pk_t (v := (.bool true)) rfl rfl) ?_
            refine WL_val rfl rfl rfl (st_as (v := .bool _) rfl) ?_
            refine WL_nil ?_
            refine W_seq ?_
            refine W_seq ?_
            refine W_region ?_
            refine WL_val rfl rfl rfl (st_mv (v := .bool _) rfl) ?_
            refine WL_nil ?_
            refine W_yes rfl ?_
            refine W_seq ?_
            refine W_region ?_
            refine WL_val rfl rfl rfl (st_as (v := (.int .i64 6)) rfl) ?_
            refine WL_nil ?_
            refine W_ret ?_
            refine qr1 ?_
            exact ⟨vint (by clear hb1 hx0; simp_all [formF, badB]), hx0⟩
  · have g12 := h12
    refine WQ_valg rfl rfl rfl (congrArg Value.bool h12) rfl rfl (fun _ _ => st_fieldAddr (off := 3) Tryd.underlying33 rfl rfl ti30 rfl) ?_
    refine WQ_valg rfl rfl rfl (congrArg Value.bool h12) rfl rfl (fun w' hx' => st_load ⟨_, Tryd.underlying30, rfl⟩ rfl (hx'.cell (hb1.cell 3 rfl))) ?_
    refine WQ_valg rfl rfl rfl (congrArg Value.bool h12) rfl rfl (fun _ _ => st_len Tryd.underlying30 rfl) ?_
    refine WQ_valg rfl rfl rfl (congrArg Value.bool h12) rfl rfl (fun _ _ => st_gtr rfl rfl) ?_
    refine WQ_val rfl rfl rfl (fun _ _ => st_pk_f (v := .bool _) (congrArg Value.bool h12) rfl) ?_
    refine WQ_val rfl rfl rfl (fun _ _ => st_fieldAddr (off := 4) Tryd.underlying33 rfl rfl ti31 rfl) ?_
    refine WQ_val rfl rfl rfl (fun w' hx' => st_load ⟨_, Tryd.underlying31, rfl⟩ rfl (hx'.cell (hb1.cell 4 rfl))) ?_
    refine WQ_val rfl rfl rfl (fun _ _ => st_len Tryd.underlying31 rfl) ?_
    refine WQ_val rfl rfl rfl (fun _ _ => st_gtr rfl rfl) ?_
    refine WQ_val rfl rfl rfl (fun _ _ => st_as (v := .bool _) rfl) ?_
    refine WQ_val rfl rfl rfl (fun _ _ => st_as (v := .bool _) rfl) ?_
    refine WQ_val rfl rfl rfl (fun _ _ => st_as (v := .bool _) rfl) ?_
    refine WQ_nil ?_
    intro w6 hx7
    replace hx0 := hx0.ext hx7
    replace hb1 := hb1.ext hx7
    refine W_seq ?_
    refine W_region ?_
    refine WL_val rfl rfl rfl (st_as (v := (.bool false)) rfl) ?_
    refine WL_nil ?_
    refine W_seq ?_
    refine W_seq ?_
    refine W_region ?_
    refine WL_val rfl rfl rfl (st_fieldAddr (off := 0) Tryd.underlying33 rfl rfl ti3 rfl) ?_
    refine WL_val rfl rfl rfl (st_load ⟨_, Tryd.underlying3, rfl⟩ rfl (hb1.cell 0 rfl)) ?_
    refine WL_nil ?_
    refine W_block ?_
    refine W_seq ?_
    refine W_region ?_
    refine WL_val rfl rfl rfl (st_eql rfl rfl) ?_
    refine WL_val rfl rfl rfl (st_as (v := .bool _) rfl) ?_
    refine WL_nil ?_
    refine W_cond rfl (fun h31 => ?_) (fun h31 => ?_)
    · have g31 := of_decide_eq_true h31
      refine W_region ?_
      refine WL_val rfl rfl rfl (st_mv (v := .bool _) rfl) ?_
      refine WL_val rfl rfl rfl (st_mv (v := .bool _) rfl) ?_
      refine WL_split 34 rfl (fun h34 => ?_) (fun h34 => ?_)
      · have g34 := of_decide_eq_true h34
        refine WL_pass rfl rfl rfl (congrArg Value.bool h34) rfl rfl ?_
        refine WL_val rfl rfl rfl (st_pk_t (v := (.bool true)) (congrArg Value.bool h34) rfl) ?_
        refine WL_val rfl rfl rfl (st_mv (v := .bool _) rfl) ?_
        refine WL_pass rfl rfl rfl rfl rfl rfl ?_
        refine WL_pass rfl rfl rfl rfl rfl rfl ?_
        refine WL_val rfl rfl rfl (st_pk_t (v := (.bool true)) rfl rfl) ?_
        refine WL_val rfl rfl rfl (st_mv (v := .bool _) rfl) ?_
        refine WL_pass rfl rfl rfl rfl rfl rfl ?_
        refine WL_pass rfl rfl rfl rfl rfl rfl ?_
        refine WL_pass rfl rfl rfl rfl rfl rfl ?_
        refine WL_val rfl rfl rfl (st_pk_t (v := (.bool true)) rfl rfl) ?_
        refine WL_val rfl rfl rfl (st_as (v := .bool _) rfl) ?_
        refine WL_nil ?_
        refine W_seq ?_
        refine W_seq ?_
        refine W_region ?_
        refine WL_val rfl rfl rfl (st_mv (v := .bool _) rfl) ?_
        refine WL_nil ?_
        refine W_yes rfl ?_
        refine W_seq ?_
        refine W_region ?_
        refine WL_val rfl rfl rfl (st_as (v := (.int .i64 6)) rfl) ?_
        refine WL_nil ?_
        refine W_ret ?_
        refine qr1 ?_
        exact ⟨vint (by clear hb1 hx0; simp_all [formF, badB]), hx0⟩
      · have g34 := of_decide_eq_false h34
        refine WL_valg rfl rfl rfl (congrArg Value.bool h34) rfl rfl (st_mv (v := .bool _) rfl) ?_
        refine WL_val rfl rfl rfl (st_pk_f (v := .bool _) (congrArg Value.bool h34) rfl) ?_
        refine WL_val rfl rfl rfl (st_mv (v := .bool _) rfl) ?_
        refine WL_split 37 rfl (fun h37 => ?_) (fun h37 => ?_)
        · have g37 := of_decide_eq_true h37
          refine WL_pass rfl rfl rfl (congrArg Value.bool h37) rfl rfl ?_
          refine WL_pass rfl rfl rfl (congrArg Value.bool h37) rfl rfl ?_
          refine WL_val rfl rfl rfl (st_pk_t (v := (.bool true)) (congrArg Value.bool h37) rfl) ?_
          refine WL_val rfl rfl rfl (st_mv (v := .bool _) rfl) ?_
          refine WL_pass rfl rfl rfl rfl rfl rfl ?_
          refine WL_pass rfl rfl rfl rfl rfl rfl ?_
          refine WL_pass rfl rfl rfl rfl rfl rfl ?_
          refine WL_val rfl rfl rfl (st_pk_t (v := (.bool true)) rfl rfl) ?_
          refine WL_val rfl rfl rfl (st_as (v := .bool _) rfl) ?_
          refine WL_nil ?_
          refine W_seq ?_
          refine W_seq ?_
          refine W_region ?_
          refine WL_val rfl rfl rfl (st_mv (v := .bool _) rfl) ?_
          refine WL_nil ?_
          refine W_yes rfl ?_
          refine W_seq ?_
          refine W_region ?_
          refine WL_val rfl rfl rfl (st_as (v := (.int .i64 6)) rfl) ?_
          refine WL_nil ?_
          refine W_ret ?_
          refine qr1 ?_
          exact ⟨vint (by clear hb1 hx0; simp_all [formF, badB]), hx0⟩
        · have g37 := of_decide_eq_false h37
          refine WL_valg rfl rfl rfl (congrArg Value.bool h37) rfl rfl (st_mv (v := .bool _) rfl) ?_
          refine WL_valg rfl rfl rfl (congrArg Value.bool h37) rfl rfl (st_not rfl) ?_
          refine WL_val rfl rfl rfl (st_pk_f (v := .bool _) (congrArg Value.bool h37) rfl) ?_
          refine WL_val rfl rfl rfl (st_mv (v := .bool _) rfl) ?_
          refine WL_split 41 rfl (fun h41 => ?_) (fun h41 => ?_)
          · have g41 := of_decide_eq_true (not_f (not_t h41))
            refine WL_pass rfl rfl rfl (congrArg Value.bool h41) rfl rfl ?_
            refine WL_pass rfl rfl rfl (congrArg Value.bool h41) rfl rfl ?_
            refine WL_pass rfl rfl rfl (congrArg Value.bool h41) rfl rfl ?_
            refine WL_val rfl rfl rfl (st_pk_t (v := (.bool true)) (congrArg Value.bool h41) rfl) ?_
            refine WL_val rfl rfl rfl (st_as (v := .bool _) rfl) ?_
            refine WL_nil ?_
            refine W_seq ?_
            refine W_seq ?_
            refine W_region ?_
            refine WL_val rfl rfl rfl (st_mv (v := .bool _) rfl) ?_
            refine WL_nil ?_
            refine W_yes rfl ?_
            refine W_seq ?_
            refine W_region ?_
            refine WL_val rfl rfl rfl (st_as (v := (.int .i64 6)) rfl) ?_
            refine WL_nil ?_
            refine W_ret ?_
            refine qr1 ?_
            exact ⟨vint (by clear hb1 hx0; simp_all [formF, badB]), hx0⟩
          · have g41 := of_decide_eq_false (not_t (not_f h41))
            refine WL_valg rfl rfl rfl (congrArg Value.bool h41) rfl rfl (st_fieldAddr (off := 1) Tryd.underlying33 rfl rfl ti9 rfl) ?_
            refine WL_valg rfl rfl rfl (congrArg Value.bool h41) rfl rfl (st_load ⟨_, Tryd.underlying9, rfl⟩ rfl (hb1.cell 1 rfl)) ?_
            refine WL_callg rfl rfl rfl (congrArg Value.bool h41) rfl rfl (hasByte_ok p.text 0 _) (ent_go rfl) ?_
            rintro _ w8 ⟨rfl, rfl⟩
            refine WL_val rfl rfl rfl (st_pk_f (v := .bool _) (congrArg Value.bool h41) rfl) ?_
            refine WL_val rfl rfl rfl (st_as (v := .bool _) rfl) ?_
            refine WL_nil ?_
            refine W_seq ?_
            refine W_seq ?_
            refine W_region ?_
            refine WL_val rfl rfl rfl (st_mv (v := .bool _) rfl) ?_
            refine WL_nil ?_
            refine W_cond rfl (fun h68 => ?_) (fun h68 => ?_)
            · have g68 := h68
              refine W_seq ?_
              refine W_region ?_
              refine WL_val rfl rfl rfl (st_as (v := (.int .i64 6)) rfl) ?_
              refine WL_nil ?_
              refine W_ret ?_
              refine qr1 ?_
              exact ⟨vint (by clear hb1 hx0; simp_all [formF, badB]), hx0⟩
            · have g68 := h68
              refine W_skip ?_
              refine W_seq ?_
              refine W_region ?_
              refine WL_val rfl rfl rfl (st_as (v := (.int .i64 0)) rfl) ?_
              refine WL_nil ?_
              refine W_ret ?_
              refine qr1 ?_
              exact ⟨vint (by clear hb1 hx0; simp_all [formF, badB]), hx0⟩
    · have g31 := of_decide_eq_false h31
      refine W_seq ?_
      refine W_region ?_
      refine WL_val rfl rfl rfl (st_eql rfl rfl) ?_
      refine WL_val rfl rfl rfl (st_as (v := .bool _) rfl) ?_
      refine WL_nil ?_
      refine W_cond rfl (fun h46 => ?_) (fun h46 => ?_)
      · have g46 := of_decide_eq_true h46
        refine W_region ?_
        refine WL_val rfl rfl rfl (st_mv (v := .bool _) rfl) ?_
        refine WL_val rfl rfl rfl (st_mv (v := .bool _) rfl) ?_
        refine WL_split 49 rfl (fun h49 => ?_) (fun h49 => ?_)
        · have g49 := of_decide_eq_false (not_t h49)
          refine WL_pass rfl rfl rfl (congrArg Value.bool h49) rfl rfl ?_
          refine WL_val rfl rfl rfl (st_pk_t (v := (.bool true)) (congrArg Value.bool h49) rfl) ?_
          refine WL_val rfl rfl rfl (st_mv (v := .bool _) rfl) ?_
          refine WL_pass rfl rfl rfl rfl rfl rfl ?_
          refine WL_pass rfl rfl rfl rfl rfl rfl ?_
          refine WL_pass rfl rfl rfl rfl rfl rfl ?_
          refine WL_pass rfl rfl rfl rfl rfl rfl ?_
          refine WL_val rfl rfl rfl (st_pk_t (v := (.bool true)) rfl rfl) ?_
          refine WL_val rfl rfl rfl (st_as (v := .bool _) rfl) ?_
          refine WL_nil ?_
          refine W_seq ?_
          refine W_seq ?_
          refine W_region ?_
          refine WL_val rfl rfl rfl (st_mv (v := .bool _) rfl) ?_
          refine WL_nil ?_
          refine W_yes rfl ?_
          refine W_seq ?_
          refine W_region ?_
          refine WL_val rfl rfl rfl (st_as (v := (.int .i64 6)) rfl) ?_
          refine WL_nil ?_
          refine W_ret ?_
          refine qr1 ?_
          exact ⟨vint (by clear hb1 hx0; simp_all [formF, badB]), hx0⟩
        · have g49 := of_decide_eq_true (not_f h49)
          refine WL_valg rfl rfl rfl (congrArg Value.bool h49) rfl rfl (st_mv (v := .bool _) rfl) ?_
          refine WL_val rfl rfl rfl (st_pk_f (v := .bool _) (congrArg Value.bool h49) rfl) ?_
          refine WL_val rfl rfl rfl (st_mv (v := .bool _) rfl) ?_
          refine WL_split 52 rfl (fun h52 => ?_) (fun h52 => ?_)
          · have g52 := of_decide_eq_true h52
            refine WL_pass rfl rfl rfl (congrArg Value.bool h52) rfl rfl ?_
            refine WL_pass rfl rfl rfl (congrArg Value.bool h52) rfl rfl ?_
            refine WL_pass rfl rfl rfl (congrArg Value.bool h52) rfl rfl ?_
            refine WL_pass rfl rfl rfl (congrArg Value.bool h52) rfl rfl ?_
            refine WL_val rfl rfl rfl (st_pk_t (v := (.bool true)) (congrArg Value.bool h52) rfl) ?_
            refine WL_val rfl rfl rfl (st_as (v := .bool _) rfl) ?_
            refine WL_nil ?_
            refine W_seq ?_
            refine W_seq ?_
            refine W_region ?_
            refine WL_val rfl rfl rfl (st_mv (v := .bool _) rfl) ?_
            refine WL_nil ?_
            refine W_yes rfl ?_
            refine W_seq ?_
            refine W_region ?_
            refine WL_val rfl rfl rfl (st_as (v := (.int .i64 6)) rfl) ?_
            refine WL_nil ?_
            refine W_ret ?_
            refine qr1 ?_
            exact ⟨vint (by clear hb1 hx0; simp_all [formF, badB]), hx0⟩
          · have g52 := of_decide_eq_false h52
            refine WL_valg rfl rfl rfl (congrArg Value.bool h52) rfl rfl (st_fieldAddr (off := 3) Tryd.underlying33 rfl rfl ti30 rfl) ?_
            refine WL_valg rfl rfl rfl (congrArg Value.bool h52) rfl rfl (st_load ⟨_, Tryd.underlying30, rfl⟩ rfl (hb1.cell 3 rfl)) ?_
            refine WL_valg rfl rfl rfl (congrArg Value.bool h52) rfl rfl (st_len Tryd.underlying30 rfl) ?_
            refine WL_valg rfl rfl rfl (congrArg Value.bool h52) rfl rfl (st_eql rfl rfl) ?_
            refine WL_val rfl rfl rfl (st_pk_f (v := .bool _) (congrArg Value.bool h52) rfl) ?_
            refine WL_val rfl rfl rfl (st_as (v := .bool _) rfl) ?_
            refine WL_nil ?_
            refine W_seq ?_
            refine W_seq ?_
            refine W_region ?_
            refine WL_val rfl rfl rfl (st_mv (v := .bool _) rfl) ?_
            refine WL_nil ?_
            refine W_cond rfl (fun h68 => ?_) (fun h68 => ?_)
            · have g68 := of_decide_eq_true h68
              refine W_seq ?_
              refine W_region ?_
              refine WL_val rfl rfl rfl (st_as (v := (.int .i64 6)) rfl) ?_
              refine WL_nil ?_
              refine W_ret ?_
              refine qr1 ?_
              exact ⟨vint (by clear hb1 hx0; simp_all [formF, badB]), hx0⟩
            · have g68 := of_decide_eq_false h68
              refine W_skip ?_
              refine W_seq ?_
              refine W_region ?_
              refine WL_val rfl rfl rfl (st_as (v := (.int .i64 0)) rfl) ?_
              refine WL_nil ?_
              refine W_ret ?_
              refine qr1 ?_
              exact ⟨vint (by clear hb1 hx0; simp_all [formF, badB]), hx0⟩
      · have g46 := of_decide_eq_false h46
        refine W_seq ?_
        refine W_region ?_
        refine WL_val rfl rfl rfl (st_eql rfl rfl) ?_
        refine WL_val rfl rfl rfl (st_as (v := .bool _) rfl) ?_
        refine WL_nil ?_
        refine W_cond rfl (fun h58 => ?_) (fun h58 => ?_)
        · have g58 := of_decide_eq_true h58
          refine W_region ?_
          refine WL_val rfl rfl rfl (st_mv (v := .bool _) rfl) ?_
          refine WL_val rfl rfl rfl (st_mv (v := .bool _) rfl) ?_
          refine WL_split 61 rfl (fun h61 => ?_) (fun h61 => ?_)
          · have g61 := of_decide_eq_false (not_t h61)
            refine WL_pass rfl rfl rfl (congrArg Value.bool h61) rfl rfl ?_
            refine WL_val rfl rfl rfl (st_pk_t (v := (.bool true)) (congrArg Value.bool h61) rfl) ?_
            refine WL_val rfl rfl rfl (st_mv (v := .bool _) rfl) ?_
            refine WL_pass rfl rfl rfl rfl rfl rfl ?_
            refine WL_pass rfl rfl rfl rfl rfl rfl ?_
            refine WL_val rfl rfl rfl (st_pk_t (v := (.bool true)) rfl rfl) ?_
            refine WL_val rfl rfl rfl (st_as (v := .bool _) rfl) ?_
            refine WL_nil ?_
            refine W_seq ?_
            refine W_seq ?_
            refine W_region ?_
            refine WL_val rfl rfl rfl (st_mv (v := .bool _) rfl) ?_
            refine WL_nil ?_
            refine W_yes rfl ?_
            refine W_seq ?_
            refine W_region ?_
            refine WL_val rfl rfl rfl (st_as (v := (.int .i64 6)) rfl) ?_
            refine WL_nil ?_
            refine W_ret ?_
            refine qr1 ?_
            exact ⟨vint (by clear hb1 hx0; simp_all [formF, badB]), hx0⟩
          · have g61 := of_decide_eq_true (not_f h61)
            refine WL_valg rfl rfl rfl (congrArg Value.bool h61) rfl rfl (st_mv (v := .bool _) rfl) ?_
            refine WL_val rfl rfl rfl (st_pk_f (v := .bool _) (congrArg Value.bool h61) rfl) ?_
            refine WL_val rfl rfl rfl (st_mv (v := .bool _) rfl) ?_
            refine WL_split 64 rfl (fun h64 => ?_) (fun h64 => ?_)
            · have g64 := of_decide_eq_true h64
              refine WL_pass rfl rfl rfl (congrArg Value.bool h64) rfl rfl ?_
              refine WL_pass rfl rfl rfl (congrArg Value.bool h64) rfl rfl ?_
              refine WL_val rfl rfl rfl (st_pk_t (v := (.bool true)) (congrArg Value.bool h64) rfl) ?_
              refine WL_val rfl rfl rfl (st_as (v := .bool _) rfl) ?_
              refine WL_nil ?_
              refine W_seq ?_
              refine W_seq ?_
              refine W_region ?_
              refine WL_val rfl rfl rfl (st_mv (v := .bool _) rfl) ?_
              refine WL_nil ?_
              refine W_yes rfl ?_
              refine W_seq ?_
              refine W_region ?_
              refine WL_val rfl rfl rfl (st_as (v := (.int .i64 6)) rfl) ?_
              refine WL_nil ?_
              refine W_ret ?_
              refine qr1 ?_
              exact ⟨vint (by clear hb1 hx0; simp_all [formF, badB]), hx0⟩
            · have g64 := of_decide_eq_false h64
              refine WL_valg rfl rfl rfl (congrArg Value.bool h64) rfl rfl (st_mv (v := .bool _) rfl) ?_
              refine WL_valg rfl rfl rfl (congrArg Value.bool h64) rfl rfl (st_not rfl) ?_
              refine WL_val rfl rfl rfl (st_pk_f (v := .bool _) (congrArg Value.bool h64) rfl) ?_
              refine WL_val rfl rfl rfl (st_as (v := .bool _) rfl) ?_
              refine WL_nil ?_
              refine W_seq ?_
              refine W_seq ?_
              refine W_region ?_
              refine WL_val rfl rfl rfl (st_mv (v := .bool _) rfl) ?_
              refine WL_nil ?_
              refine W_cond rfl (fun h68 => ?_) (fun h68 => ?_)
              · have g68 := of_decide_eq_false (not_t h68)
                refine W_seq ?_
                refine W_region ?_
                refine WL_val rfl rfl rfl (st_as (v := (.int .i64 6)) rfl) ?_
                refine WL_nil ?_
                refine W_ret ?_
                refine qr1 ?_
                exact ⟨vint (by clear hb1 hx0; simp_all [formF, badB]), hx0⟩
              · have g68 := of_decide_eq_true (not_f h68)
                refine W_skip ?_
                refine W_seq ?_
                refine W_region ?_
                refine WL_val rfl rfl rfl (st_as (v := (.int .i64 0)) rfl) ?_
                refine WL_nil ?_
                refine W_ret ?_
                refine qr1 ?_
                exact ⟨vint (by clear hb1 hx0; simp_all [formF, badB]), hx0⟩
        · have g58 := of_decide_eq_false h58
          refine W_region ?_
          refine WL_val rfl rfl rfl (st_mv (v := .bool _) rfl) ?_
          refine WL_val rfl rfl rfl (st_mv (v := .bool _) rfl) ?_
          refine WL_split 25 rfl (fun h25 => ?_) (fun h25 => ?_)
          · have g25 := of_decide_eq_false (not_t h25)
            refine WL_pass rfl rfl rfl (congrArg Value.bool h25) rfl rfl ?_
            refine WL_val rfl rfl rfl (st_pk_t (v := (.bool true)) (congrArg Value.bool h25) rfl) ?_
            refine WL_val rfl rfl rfl (st_mv (v := .bool _) rfl) ?_
            refine WL_pass rfl rfl rfl rfl rfl rfl ?_
            refine WL_val rfl rfl rfl (st_pk_t (v := (.bool true)) rfl rfl) ?_
            refine WL_val rfl rfl rfl (st_as (v := .bool _) rfl) ?_
            refine WL_nil ?_
            refine W_seq ?_
            refine W_seq ?_
            refine W_region ?_
            refine WL_val rfl rfl rfl (st_mv (v := .bool _) rfl) ?_
            refine WL_nil ?_
            refine W_yes rfl ?_
            refine W_seq ?_
            refine W_region ?_
            refine WL_val rfl rfl rfl (st_as (v := (.int .i64 6)) rfl) ?_
            refine WL_nil ?_
            refine W_ret ?_
            refine qr1 ?_
            exact ⟨vint (by clear hb1 hx0; simp_all [formF, badB]), hx0⟩
          · have g25 := of_decide_eq_true (not_f h25)
            refine WL_valg rfl rfl rfl (congrArg Value.bool h25) rfl rfl (st_mv (v := .bool _) rfl) ?_
            refine WL_val rfl rfl rfl (st_pk_f (v := .bool _) (congrArg Value.bool h25) rfl) ?_
            refine WL_val rfl rfl rfl (st_mv (v := .bool _) rfl) ?_
            refine WL_split 28 rfl (fun h28 => ?_) (fun h28 => ?_)
            · have g28 := of_decide_eq_true h28
              refine WL_pass rfl rfl rfl (congrArg Value.bool h28) rfl rfl ?_
              refine WL_val rfl rfl rfl (st_pk_t (v := (.bool true)) (congrArg Value.bool h28) rfl) ?_
              refine WL_val rfl rfl rfl (st_as (v := .bool _) rfl) ?_
              refine WL_nil ?_
              refine W_seq ?_
              refine W_seq ?_
              refine W_region ?_
              refine WL_val rfl rfl rfl (st_mv (v := .bool _) rfl) ?_
              refine WL_nil ?_
              refine W_yes rfl ?_
              refine W_seq ?_
              refine W_region ?_
              refine WL_val rfl rfl rfl (st_as (v := (.int .i64 6)) rfl) ?_
              refine WL_nil ?_
              refine W_ret ?_
              refine qr1 ?_
              exact ⟨vint (by clear hb1 hx0; simp_all [formF, badB]), hx0⟩
            · have g28 := of_decide_eq_false h28
              refine WL_valg rfl rfl rfl (congrArg Value.bool h28) rfl rfl (st_mv (v := .bool _) rfl) ?_
              refine WL_val rfl rfl rfl (st_pk_f (v := .bool _) (congrArg Value.bool h28) rfl) ?_
              refine WL_val rfl rfl rfl (st_as (v := .bool _) rfl) ?_
              refine WL_nil ?_
              refine W_seq ?_
              refine W_seq ?_
              refine W_region ?_
              refine WL_val rfl rfl rfl (st_mv (v := .bool _) rfl) ?_
              refine WL_nil ?_
              refine W_cond rfl (fun h68 => ?_) (fun h68 => ?_)
              · have g68 := of_decide_eq_true h68
                refine W_seq ?_
                refine W_region ?_
                refine WL_val rfl rfl rfl (st_as (v := (.int .i64 6)) rfl) ?_
                refine WL_nil ?_
                refine W_ret ?_
                refine qr1 ?_
                exact ⟨vint (by clear hb1 hx0; simp_all [formF, badB]), hx0⟩
              · have g68 := of_decide_eq_false h68
                refine W_skip ?_
                refine W_seq ?_
                refine W_region ?_
                refine WL_val rfl rfl rfl (st_as (v := (.int .i64 0)) rfl) ?_
                refine WL_nil ?_
                refine W_ret ?_
                refine qr1 ?_
                exact ⟨vint (by clear hb1 hx0; simp_all [formF, badB]), hx0⟩
end Go.Proofs.YtndfhicdabdafaaDoor
