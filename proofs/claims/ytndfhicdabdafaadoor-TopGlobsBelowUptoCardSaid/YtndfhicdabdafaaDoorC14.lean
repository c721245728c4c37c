/- Walks of what arrows take. -/
import Derived.Test.YtndfhicdabdafaaDoorC13
namespace Go.Proofs.YtndfhicdabdafaaDoor
open Go Go.RowKit

theorem byte_beq (c d : UInt8) : decide ((c.toNat : Int) = (d.toNat : Int)) = (c == d) := by
  rw [show (c == d) = decide (c = d) from rfl]
  refine decide_eq_decide.2 ?_
  rw [← UInt8.toNat_inj]
  omega
theorem take1_ok (b : Nat) (c c0 : UInt8) (w : World) (hb : Blk w b 5 [.int .u8 (c0.toNat : Int)]) :
    Fun Tryd.prog 58 [.int .u8 (c.toNat : Int), .pointer (some ⟨b, 0, none⟩)] w (fun r w' => r = .bool (c == c0) ∧ Ext w w') := by
  refine fun1 Tryd.func58 rfl (by kernel_rfl) rfl rfl rfl ?_
  refine W_seq ?_
  refine W_region ?_
  refine WL_val rfl rfl rfl (st_as (v := (.bool false)) rfl) ?_
  refine WL_nil ?_
  refine W_seq ?_
  refine W_region ?_
  refine WL_val rfl rfl rfl (st_mv (v := .int _ _) rfl) ?_
  refine WL_val rfl rfl rfl (st_load ⟨_, Tryd.underlying5, rfl⟩ rfl (hb.cell 0 rfl)) ?_
  refine WL_val rfl rfl rfl (st_eql rfl rfl) ?_
  refine WL_val rfl rfl rfl (st_as (v := .bool _) rfl) ?_
  refine WL_nil ?_
  refine W_ret ?_
  refine qr1 ?_
  exact ⟨vbool (byte_beq c c0), Ext.refl w⟩
theorem take2_ok (b n : Nat) (c : UInt8) (p : Part) (ra wa : Option Addr) (rc wc : Nat) (w : World) (hb : Blk w b 33 (partCells p ra wa rc wc)) (hpr : RangesAt (· < n) w (.slice ra p.ranges.length rc) p.ranges) :
    Fun Tryd.prog 59 [.int .u8 (c.toNat : Int), .pointer (some ⟨b, 0, none⟩)] w (fun r w' => r = .bool (oneB p c) ∧ Ext w w') := by
  unfold partCells at hb
  have hx0 := Ext.refl w
  refine fun1 Tryd.func59 rfl (by kernel_rfl) rfl rfl rfl ?_
  refine W_seq ?_
  refine W_region ?_
  refine WL_val rfl rfl rfl (st_as (v := (.bool false)) rfl) ?_
  refine WL_nil ?_
  refine W_seq ?_
  refine W_region ?_
  refine WL_val rfl rfl rfl (st_loada ⟨_, Tryd.underlying33, rfl⟩ ti33 rfl hb.cells rfl) ?_
  refine WL_val rfl rfl rfl (st_mv (v := .int _ _) rfl) ?_
  refine WL_call rfl rfl rfl (oneByte_ok p c _ ra wa rc wc _ hpr) (ent_go rfl) ?_
  rintro _ w1 ⟨rfl, hx2⟩
  replace hx0 := hx0.ext hx2
  refine WL_val rfl rfl rfl (st_as (v := .bool _) rfl) ?_
  refine WL_nil ?_
  refine W_ret ?_
  refine qr1 ?_
  exact ⟨rfl, hx0⟩
theorem take3_ok (b : Nat) (c : UInt8) (p : Part) (ra wa : Option Addr) (rc wc : Nat) (w : World) (hb : Blk w b 33 (partCells p ra wa rc wc)) :
    Fun Tryd.prog 61 [.int .u8 (c.toNat : Int), .pointer (some ⟨b, 0, none⟩)] w (fun r w' => r = .bool (starB p.kind c) ∧ Ext w w') := by
  unfold partCells at hb
  refine fun1 Tryd.func61 rfl (by kernel_rfl) rfl rfl rfl ?_
  refine W_seq ?_
  refine W_region ?_
  refine WL_val rfl rfl rfl (st_as (v := (.bool false)) rfl) ?_
  refine WL_nil ?_
  refine W_seq ?_
  refine W_region ?_
  refine WL_val rfl rfl rfl (st_mv (v := .int _ _) rfl) ?_
  refine WL_val rfl rfl rfl (st_neq rfl rfl) ?_
  refine WL_val rfl rfl rfl (st_mv (v := .bool _) rfl) ?_
  refine WL_split 6 rfl (fun h6 => ?_) (fun h6 => ?_)
  · have g6 := of_decide_eq_true h6
    refine WL_pass rfl rfl rfl (congrArg Value.bool h6) rfl rfl ?_
    refine WL_pass rfl rfl rfl (congrArg Value.bool h6) rfl rfl ?_
    refine WL_pass rfl rfl rfl (congrArg Value.bool h6) rfl rfl ?_
    refine WL_val rfl rfl rfl (st_pk_t (v := (.bool true)) (congrArg Value.bool h6) rfl) ?_
    refine WL_val rfl rfl rfl (st_as (v := .bool _) rfl) ?_
    refine WL_nil ?_
    refine W_ret ?_
    refine qr1 ?_
    exact ⟨vbool (by unfold starB; rw [oneC c, h6]; rfl), Ext.refl w⟩
  · have g6 := of_decide_eq_false h6
    refine WL_valg rfl rfl rfl (congrArg Value.bool h6) rfl rfl (st_fieldAddr (off := 0) Tryd.underlying33 rfl rfl ti3 rfl) ?_
    refine WL_valg rfl rfl rfl (congrArg Value.bool h6) rfl rfl (st_load ⟨_, Tryd.underlying3, rfl⟩ rfl (hb.cell 0 rfl)) ?_
    refine WL_valg rfl rfl rfl (congrArg Value.bool h6) rfl rfl (st_eql rfl rfl) ?_
    refine WL_val rfl rfl rfl (st_pk_f (v := .bool _) (congrArg Value.bool h6) rfl) ?_
    refine WL_val rfl rfl rfl (st_as (v := .bool _) rfl) ?_
    refine WL_nil ?_
    refine W_ret ?_
    refine qr1 ?_
    exact ⟨vbool (by unfold starB; rw [oneC c, h6]; rfl), Ext.refl w⟩
end Go.Proofs.YtndfhicdabdafaaDoor
