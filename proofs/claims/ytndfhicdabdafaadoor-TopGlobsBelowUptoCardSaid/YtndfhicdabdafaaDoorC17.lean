/- Walks of grown and some. -/
import Derived.Test.YtndfhicdabdafaaDoorV
import Derived.Test.YtndfhicdabdafaaDoorC16
namespace Go.Proofs.YtndfhicdabdafaaDoor
open Go Go.RowKit

theorem grown_ok (nm : Nat) (c : UInt8) (hnm : nm ≤ 3) (w : World) :
    Fun Tryd.prog 48 [.int .i64 (nm : Int), .int .u8 (c.toNat : Int)] w (fun r w' => ∃ (k : Nat) (b : Bool), r = .tuple #[.int .i64 (k : Int), .bool b] ∧ (b = true → grw nm c = some k) ∧ (b = false → grw nm c = none) ∧ Ext w w') := by
  refine fun2 Tryd.func48 rfl (by kernel_rfl) rfl rfl rfl ?_
  refine W_seq ?_
  refine W_region ?_
  refine WL_val rfl rfl rfl (st_as (v := (.int .i64 0)) rfl) ?_
  refine WL_val rfl rfl rfl (st_as (v := (.bool false)) rfl) ?_
  refine WL_nil ?_
  refine W_seq ?_
  refine W_block ?_
  refine W_seq ?_
  refine W_region ?_
  refine WL_val rfl rfl rfl (st_mv (v := .int _ _) rfl) ?_
  refine WL_val rfl rfl rfl (st_eql rfl rfl) ?_
  refine WL_val rfl rfl rfl (st_as (v := .bool _) rfl) ?_
  refine WL_nil ?_
  refine W_cond rfl (fun h6 => ?_) (fun h6 => ?_)
  · have g6 := of_decide_eq_true h6
    refine W_seq ?_
    refine W_region ?_
    refine WL_val rfl rfl rfl (st_mv (v := .int _ _) rfl) ?_
    refine WL_val rfl rfl rfl (st_eql rfl rfl) ?_
    refine WL_val rfl rfl rfl (st_as (v := (.int .i64 0)) rfl) ?_
    refine WL_val rfl rfl rfl (st_as (v := .bool _) rfl) ?_
    refine WL_nil ?_
    refine W_ret ?_
    refine qr2 ?_
    have hc : c = 47 := by rw [← UInt8.toNat_inj]; show c.toNat = 47; omega
    refine ⟨0, decide ((nm : Int) = 3), rfl, fun h => ?_, fun h => ?_, Ext.refl w⟩
    · have h3 := of_decide_eq_true h
      unfold grw
      rw [if_pos hc, if_pos (by omega)]
    · have h3 := of_decide_eq_false h
      unfold grw
      rw [if_pos hc, if_neg (by omega)]
  · have g6 := of_decide_eq_false h6
    refine W_seq ?_
    refine W_region ?_
    refine WL_val rfl rfl rfl (st_mv (v := .int _ _) rfl) ?_
    refine WL_val rfl rfl rfl (st_eql rfl rfl) ?_
    refine WL_val rfl rfl rfl (st_mv (v := .bool _) rfl) ?_
    refine WL_split 14 rfl (fun h14 => ?_) (fun h14 => ?_)
    · have g14 := of_decide_eq_true h14
      refine WL_valg rfl rfl rfl (congrArg Value.bool h14) rfl rfl (st_mv (v := .int _ _) rfl) ?_
      refine WL_valg rfl rfl rfl (congrArg Value.bool h14) rfl rfl (st_neq rfl rfl) ?_
      refine WL_val rfl rfl rfl (st_pk_t (v := .bool _) (congrArg Value.bool h14) rfl) ?_
      refine WL_val rfl rfl rfl (st_as (v := .bool _) rfl) ?_
      refine WL_nil ?_
      refine W_cond rfl (fun h11 => ?_) (fun h11 => ?_)
      · have g11 := of_decide_eq_true h11
        refine W_seq ?_
        refine W_region ?_
        refine WL_val rfl rfl rfl (st_mv (v := .int _ _) rfl) ?_
        refine WL_val rfl rfl rfl (st_add rfl rfl (by omega) (by omega)) ?_
        refine WL_val rfl rfl rfl (st_as (v := .int _ _) rfl) ?_
        refine WL_val rfl rfl rfl (st_as (v := (.bool true)) rfl) ?_
        refine WL_nil ?_
        refine W_ret ?_
        refine qr2 ?_
        have hc : c ≠ 47 := fun e => g6 (by rw [e]; rfl)
        have hd : c = 46 := by rw [← UInt8.toNat_inj]; show c.toNat = 46; omega
        refine ⟨nm + 1, true, rfl, fun _ => ?_, fun h => (by cases h), Ext.refl w⟩
        unfold grw
        rw [if_neg hc, if_pos ⟨hd, by omega⟩]
      · have g11 := of_decide_eq_false h11
        refine W_skip ?_
        refine W_seq ?_
        refine W_region ?_
        refine WL_val rfl rfl rfl (st_as (v := (.int .i64 3)) rfl) ?_
        refine WL_val rfl rfl rfl (st_as (v := (.bool true)) rfl) ?_
        refine WL_nil ?_
        refine W_ret ?_
        refine qr2 ?_
        have hc : c ≠ 47 := fun e => g6 (by rw [e]; rfl)
        refine ⟨3, true, rfl, fun _ => ?_, fun h => (by cases h), Ext.refl w⟩
        unfold grw
        rw [if_neg hc, if_neg (fun ⟨h1, h2⟩ => h2 (by have := of_decide_eq_false h11; omega))]
    · have g14 := of_decide_eq_false h14
      refine WL_pass rfl rfl rfl (congrArg Value.bool h14) rfl rfl ?_
      refine WL_pass rfl rfl rfl (congrArg Value.bool h14) rfl rfl ?_
      refine WL_val rfl rfl rfl (st_pk_f (v := (.bool false)) (congrArg Value.bool h14) rfl) ?_
      refine WL_val rfl rfl rfl (st_as (v := .bool _) rfl) ?_
      refine WL_nil ?_
      refine W_no rfl ?_
      refine W_skip ?_
      refine W_seq ?_
      refine W_region ?_
      refine WL_val rfl rfl rfl (st_as (v := (.int .i64 3)) rfl) ?_
      refine WL_val rfl rfl rfl (st_as (v := (.bool true)) rfl) ?_
      refine WL_nil ?_
      refine W_ret ?_
      refine qr2 ?_
      have hc : c ≠ 47 := fun e => g6 (by rw [e]; rfl)
      refine ⟨3, true, rfl, fun _ => ?_, fun h => (by cases h), Ext.refl w⟩
      unfold grw
      rw [if_neg hc, if_neg (fun ⟨h1, h2⟩ => g14 (by rw [h1]; rfl))]
theorem pairPl : ∃ f1 f2, PairT Tryd.prog 94 f1 f2 := ⟨_, _, Tryd.underlying94, by decide, by decide, rfl, rfl, Tryd.underlying3, Tryd.underlying3, by kernel_rfl⟩
theorem keyPl : KeyOk Tryd.prog 94 mkP := let ⟨_, _, h⟩ := pairPl; keyP h
theorem visit_ok (b7 b8 ms n0 : Nat) (L : List Nat) (se td : List (Nat × Nat)) (p : Nat × Nat) (w : World) (hV : Vis8 w b7 b8 ms n0 L se td) (hLl : ∀ k ∈ L, k < w.heap.size) (hn0 : n0 ≤ w.heap.size) (hlen : td.length ≤ 1099511627776) :
    Fun Tryd.prog 47 [mkP p, .pointer (some ⟨b7, 0, none⟩), .pointer (some ⟨b8, 0, none⟩)] w (fun r w' => r = .tuple #[] ∧ ∃ se' td', Add p se td se' td' ∧ Vis8 w' b7 b8 ms n0 L se' td' ∧ Fro (fun k => n0 ≤ k ∧ k ∉ L) w w') := by
  obtain ⟨l7, l8, lm⟩ := hV.lt
  obtain ⟨v, g, hB7, hS, hB8, hT, hg, hms0, hb80, hmsL, hb8L, h78⟩ := id hV
  have hm8 : ms ≠ b8 := fun e => hB8.ne_set hS e.symm
  obtain ⟨g, hT, hg0, hgL, hg8, hgm, hg7⟩ : ∃ g, Own w 94 2 v td.length (flatP td) g ∧ n0 ≤ g ∧ g ∉ L ∧ g ≠ b8 ∧ g ≠ ms ∧ g ≠ b7 := by
    rcases hg with rfl | ⟨a, b, c, d, e, _⟩
    · refine ⟨w.heap.size, ?_, hn0, fun hm => by have := hLl _ hm; omega, by omega, by omega, by omega⟩
      obtain ⟨a, b⟩ := hT
      rcases b with b | ⟨cap, junk, b, _⟩
      · exact ⟨a, .inl b⟩
      · cases b
    · exact ⟨g, hT, a, b, c, d, e⟩
  obtain ⟨a0, cap0, rfl, hp0⟩ := hT.form
  have hx := Ext.refl w
  refine fun0 Tryd.func47 rfl (by kernel_rfl) rfl rfl rfl ?_
  refine W_seq ?_
  refine W_region ?_
  refine WL_ef (ef_box (cs := [_, _]) rfl) rfl rfl rfl ?_
  rintro _ w2 ⟨b1, rfl, hl3, hb3, hx3⟩
  replace hx := hx.ext hx3
  replace hB7 := hB7.ext hx3
  replace hS := hS.ext hx3
  replace hB8 := hB8.ext hx3
  replace hT := hT.ext hx3
  refine WL_nil ?_
  refine W_seq ?_
  refine W_region ?_
  refine WL_val rfl rfl rfl (st_load ⟨_, Tryd.underlying91, rfl⟩ rfl (hB7.cell 0 rfl)) ?_
  refine WL_val rfl rfl rfl (st_loada ⟨_, Tryd.underlying94, rfl⟩ ti94 rfl hb3.cells rfl) ?_
  refine WL_val rfl rfl rfl (st_lookup keyPl Tryd.underlying91 ti4 hS rfl rfl) ?_
  refine WL_val rfl rfl rfl (st_not rfl) ?_
  refine WL_nil ?_
  refine W_cond rfl (fun h7 => ?_) (fun h7 => ?_)
  · have h7q := h7
    refine W_seq ?_
    refine W_region ?_
    refine WL_val rfl rfl rfl (st_load ⟨_, Tryd.underlying91, rfl⟩ rfl (hB7.cell 0 rfl)) ?_
    refine WL_val rfl rfl rfl (st_loada ⟨_, Tryd.underlying94, rfl⟩ ti94 rfl hb3.cells rfl) ?_
    have hnin : p ∉ se := nd_t h7q
    refine WL_su (su_mapUpdate keyPl Tryd.underlying91 hS rfl rfl rfl) rfl rfl ?_
    rintro w12 ⟨hS2, hf12⟩
    rw [if_neg hnin] at hS2
    have hb3 := hb3.fro hf12 (fun e => hb3.ne_set hS e)
    have hB7 := hB7.fro hf12 (fun e => hB7.ne_set hS e)
    have hB8 := hB8.fro hf12 (fun e => hB8.ne_set hS e)
    have hT := hT.fro hf12 (fun e => hgm e)
    have hsz12 := hf12.size
    have hfx : Fro (fun k => n0 ≤ k ∧ k ∉ L) w w12 := hx.trans' hf12 (fun _ _ e => e.elim) (fun k _ e => by have e' : k = ms := e; subst e'; exact ⟨hms0, hmsL⟩)
    have hszx := hfx.size
    refine WL_nil ?_
    refine W_region ?_
    refine WL_val rfl rfl rfl (st_load ⟨_, Tryd.underlying92, rfl⟩ rfl (hB8.cell 0 rfl)) ?_
    refine WL_val rfl rfl rfl (st_loada ⟨_, Tryd.underlying94, rfl⟩ ti94 rfl hb3.cells rfl) ?_
    refine WL_ef (ef_buildSlice (len := 1) (cs := pcs p) Tryd.underlying92 ti94 (by decide) (by decide) rfl) rfl rfl rfl ?_
    rintro _ w13 ⟨gn, rfl, hgn, hbn, hx13⟩
    replace hS2 := hS2.ext hx13
    replace hB7 := hB7.ext hx13
    replace hB8 := hB8.ext hx13
    replace hT := hT.ext hx13
    replace hfx := hfx.ext hx13
    have hsz13 := hx13.size
    refine WL_ef (ef_append (news := pcs p) Tryd.underlying92 Tryd.underlying92 isSl_slice ti94 rfl rfl hT rfl (src_slice (by rfl) (.inr ⟨gn, 0, rfl, hbn.cells⟩) (fun h => by cases h)) rfl rfl (by omega) (by omega)) rfl rfl rfl ?_
    rintro v5 w14 ⟨g5, hT5, hf5, hg5, hnn⟩
    obtain ⟨a5, cap5, rfl, hp5⟩ := hT5.form
    have hS3 := hS2.fro hf5 (fun e => hgm (Eq.symm e))
    have h7b := hB7.fro hf5 (fun e => hg7 (Eq.symm e))
    have h8b := hB8.fro hf5 (fun e => hg8 (Eq.symm e))
    have hsz14 := hf5.size
    have hfx2 : Fro (fun k => n0 ≤ k ∧ k ∉ L) w w14 := hfx.trans' hf5 (fun _ _ e => e) (fun k _ e => by have e' : k = g := e; subst e'; exact ⟨hg0, hgL⟩)
    have hg5b : g5 ≠ b8 ∧ g5 ≠ ms ∧ g5 ≠ b7 ∧ n0 ≤ g5 ∧ g5 ∉ L := by
      rcases hg5 with e | e
      · subst e; exact ⟨hg8, hgm, hg7, hg0, hgL⟩
      · exact ⟨by omega, by omega, by omega, by omega, fun hm => by have := hLl _ hm; omega⟩
    refine WL_su (su_store ti92 rfl h8b (Nat.le_of_ble_eq_true rfl) rfl rfl) rfl rfl ?_
    rintro w4 ⟨hnb, hf5⟩
    have h8c : Blk w4 b8 92 [.slice a5 (td.length + 1) cap5] := hnb
    have hfx3 : Fro (fun k => n0 ≤ k ∧ k ∉ L) w w4 := hfx2.trans' hf5 (fun _ _ e => e) (fun k _ e => by have e' : k = b8 := e; subst e'; exact ⟨hb80, hb8L⟩)
    have hS4 := hS3.fro hf5 (fun e => by have e' : ms = b8 := e; omega)
    have h7c := h7b.fro hf5 h78
    have hT6 := hT5.fro hf5 (fun e => hg5b.1 e)
    have hp6 := hp5 (by omega)
    have hszL := hf5.size
    refine WL_nil ?_
    refine qr0 ?_
    refine ⟨rfl, _, _, .inr ⟨hnin, rfl, rfl⟩, ?_, hfx3⟩
    refine ⟨_, g5, h7c, hS4, h8c, ?_, .inr ⟨hg5b.2.2.2.1, hg5b.2.2.2.2, hg5b.1, hg5b.2.1, hg5b.2.2.1, by omega⟩, hms0, hb80, hmsL, hb8L, h78⟩
    rw [List.length_append, List.length_singleton, flatP_add]
    exact hT6
  · have h7q := h7
    refine W_skip ?_
    refine qr0 ?_
    have hin : p ∈ se := nd_f h7q
    exact ⟨rfl, _, _, .inl ⟨hin, rfl, rfl⟩, hV.ext hx, hx.fro⟩
end Go.Proofs.YtndfhicdabdafaaDoor
