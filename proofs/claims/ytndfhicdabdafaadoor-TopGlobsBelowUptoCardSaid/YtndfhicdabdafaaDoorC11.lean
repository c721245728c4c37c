/- Walks of pass, passAll. -/
import Derived.Test.YtndfhicdabdafaaDoorC10
namespace Go.Proofs.YtndfhicdabdafaaDoor
open Go Go.RowKit

def PassAll (ps : List Part) : Prop := ∀ (n : Nat) (text : ByteArray) (fr : List Bool) (gf : Nat) (v : Value) (w : World), n ≤ w.heap.size → PartsAt (· < n) w v ps → Blk w gf 4 (fr.map Value.bool) → fr.length = text.size + 1 → text.size ≤ 1099511627 →
    Fun Tryd.prog 44 [v, .string text, .slice (some ⟨gf, 0, none⟩) fr.length fr.length] w (fun r w' => ∃ (to : List Bool) (g' : Nat), r = .slice (some ⟨g', 0, none⟩) fr.length fr.length ∧ Blk w' g' 4 (to.map Value.bool) ∧ (g' = gf ∨ w.heap.size ≤ g') ∧ Pas (LP ps) text fr to ∧ Ext w w')
set_option maxHeartbeats 2000000 in
theorem pass_of (N : Nat) (ih : ∀ ps, cntP ps < N → PassAll ps) (p : Part) (hp : p.cnt ≤ N) (n : Nat) (text : ByteArray) (fr : List Bool) (gf : Nat) (ra wa : Option Addr) (rc wc : Nat) (w : World) (hn : n ≤ w.heap.size)
    (hpr : RangesAt (· < n) w (.slice ra p.ranges.length rc) p.ranges) (hpw : WaysAt (· < n) w (.slice wa p.ways.length wc) p.ways) (hfr : Blk w gf 4 (fr.map Value.bool)) (hlf : fr.length = text.size + 1) (hts : text.size ≤ 1099511627) :
    Fun Tryd.prog 56 [.agg #[.int .i64 p.kind, .string p.text, .bool p.neg, .slice ra p.ranges.length rc, .slice wa p.ways.length wc], .string text, .slice (some ⟨gf, 0, none⟩) fr.length fr.length] w (fun r w' => ∃ (to : List Bool) (g' : Nat), r = .slice (some ⟨g', 0, none⟩) fr.length fr.length ∧ Blk w' g' 4 (to.map Value.bool) ∧ (w.heap.size ≤ g') ∧ Pas (Lp p) text fr to ∧ Ext w w') := by
  obtain ⟨_, _, _, hwl⟩ := hpw.form
  have hgf := hfr.lt
  have hx0 := Ext.refl w
  refine fun1 Tryd.func56 rfl (by kernel_rfl) rfl rfl rfl ?_
  refine W_seq ?_
  refine W_region ?_
  refine WL_ef (ef_box (cs := [_, _, _, _, _]) rfl) rfl rfl rfl ?_
  rintro _ w2 ⟨b1, rfl, hl3, hb3, hx3⟩
  replace hx0 := hx0.ext hx3
  replace hfr := hfr.ext hx3
  replace hpr := hpr.ext hx3
  replace hpw := hpw.ext hx3
  refine WL_val rfl rfl rfl (st_as (v := (.slice none 0 0)) rfl) ?_
  refine WL_nil ?_
  refine W_seq ?_
  refine W_region ?_
  refine WL_val rfl rfl rfl (st_mv (v := .slice _ _ _) rfl) ?_
  refine WL_val rfl rfl rfl (st_len Tryd.underlying82 rfl) ?_
  refine WL_ef (ef_makeB Tryd.underlying82 ti4 (by decide) rfl rfl (by omega)) rfl rfl rfl ?_
  rintro _ wm ⟨g, rfl, hlg, hto, hxm⟩
  have hszm := hx0.size
  have hb3l := hb3.lt
  replace hb3 := hb3.ext hxm
  replace hfr := hfr.ext hxm
  replace hpr := hpr.ext hxm
  replace hpw := hpw.ext hxm
  replace hx0 := hx0.ext hxm
  refine WL_val rfl rfl rfl (st_as (v := .slice _ _ _) rfl) ?_
  refine WL_nil ?_
  refine W_seq ?_
  refine W_seq ?_
  refine W_region ?_
  refine WL_val rfl rfl rfl (st_fieldAddr (off := 0) Tryd.underlying33 rfl rfl ti3 rfl) ?_
  refine WL_val rfl rfl rfl (st_load ⟨_, Tryd.underlying3, rfl⟩ rfl (hb3.cell 0 rfl)) ?_
  refine WL_nil ?_
  refine W_block ?_
  refine W_seq ?_
  refine W_region ?_
  refine WL_val rfl rfl rfl (st_eql rfl rfl) ?_
  refine WL_val rfl rfl rfl (st_as (v := .bool _) rfl) ?_
  refine WL_nil ?_
  refine W_cond rfl (fun h24 => ?_) (fun h24 => ?_)
  · have g24 := of_decide_eq_true h24
    refine W_seq ?_
    refine W_region ?_
    refine WL_val rfl rfl rfl (st_mv (v := .slice _ _ _) rfl) ?_
    refine WL_val rfl rfl rfl (st_len Tryd.underlying82 rfl) ?_
    refine WL_val rfl rfl rfl (st_mv (v := (.int .i64 0)) rfl) ?_
    refine WL_nil ?_
    refine W_block ?_
    refine W_loop [28] [8, 9, 28, 29, 30, 31, 32, 33, 34, 35, 36, 37, 38, 39, 40, 41, 42, 43, 44, 45, 46, 47, 48, 49, 50, 51, 52, 53, 54, 55, 56, 57, 58, 59, 60, 61, 62, 63, 64] (fun m vs w1 => ∃ (k : Nat) (to : List Bool), k + m = fr.length ∧ vs = [.int .i64 (k : Int)] ∧ PasK (Lp p) text fr to k ∧ Blk w1 g 4 (to.map Value.bool) ∧ Fro (· = g) wm w1) ?_ ?_
    · exact ⟨fr.length, 0, _, by omega, rfl, PasK.zero, hto, Fro.refl _ _⟩
    · intro m vs w4 u hI
      obtain ⟨k, to, hk, rfl, hK, hto, hF⟩ := hI
      have hx0 : Ext w w4 := hx0.trans' hF (fun _ _ f => f) (fun k hk e => by have e' : k = g := e; omega)
      have hfr := hfr.fro hF (fun e => by have e' : gf = g := e; omega)
      have hb3 := hb3.fro hF (fun e => by have e' : b1 = g := e; omega)
      have hpr := hpr.fro hF (fun k hk e => by have e' : k = g := e; omega)
      have hpw := hpw.fro hF (fun k hk e => by have e' : k = g := e; omega)
      have hlt := hK.1
      refine W_seq ?_
      refine W_region ?_
      refine WL_val rfl rfl rfl (st_lss rfl rfl) ?_
      refine WL_nil ?_
      refine W_seq ?_
      refine W_cond rfl (fun h29 => ?_) (fun h29 => ?_)
      · have g29 := of_decide_eq_true h29
        refine W_skip ?_
        refine W_seq ?_
        refine W_block ?_
        refine W_seq ?_
        refine W_region ?_
        refine WL_val rfl rfl rfl (st_mv (v := .int _ _) rfl) ?_
        refine WL_val rfl rfl rfl (st_indexAddr (o := 0) Tryd.underlying82 ti4 rfl rfl rfl (by omega)) ?_
        refine WL_val rfl rfl rfl (st_load ⟨_, Tryd.underlying4, rfl⟩ rfl (hfr.cell _ (mapb (by omega)))) ?_
        refine WL_val rfl rfl rfl (st_as (v := .int _ _) rfl) ?_
        refine WL_val rfl rfl rfl (st_as (v := .bool _) rfl) ?_
        refine WL_nil ?_
        refine W_seq ?_
        refine W_quiet (Ext w4) mixed (by kernel_rfl) ((Ext.refl _).drew _) ?_
        refine WQ_val rfl rfl rfl (fun _ _ => st_mv (v := .bool _) rfl) ?_
        refine WQ_val rfl rfl rfl (fun _ _ => st_mv (v := .bool _) rfl) ?_
        refine WQ_split 34 rfl (fun h34 => ?_) (fun h34 => ?_)
        · have g34 := h34
          refine WQ_valg rfl rfl rfl (congrArg Value.bool h34) rfl rfl (fun _ _ => st_mv (v := .string _) rfl) ?_
          refine WQ_valg rfl rfl rfl (congrArg Value.bool h34) rfl rfl (fun _ _ => st_lens Tryd.underlying9 rfl) ?_
          refine WQ_valg rfl rfl rfl (congrArg Value.bool h34) rfl rfl (fun _ _ => st_mv (v := .int _ _) rfl) ?_
          refine WQ_valg rfl rfl rfl (congrArg Value.bool h34) rfl rfl (fun _ _ => st_sub rfl rfl (by omega) (by omega)) ?_
          refine WQ_valg rfl rfl rfl (congrArg Value.bool h34) rfl rfl (fun _ _ => st_fieldAddr (off := 1) Tryd.underlying33 rfl rfl ti9 rfl) ?_
          refine WQ_valg rfl rfl rfl (congrArg Value.bool h34) rfl rfl (fun w' hx' => st_load ⟨_, Tryd.underlying9, rfl⟩ rfl (hx'.cell (hb3.cell 1 rfl))) ?_
          refine WQ_valg rfl rfl rfl (congrArg Value.bool h34) rfl rfl (fun _ _ => st_lens Tryd.underlying9 rfl) ?_
          refine WQ_valg rfl rfl rfl (congrArg Value.bool h34) rfl rfl (fun _ _ => st_geq rfl rfl) ?_
          refine WQ_val rfl rfl rfl (fun _ _ => st_pk_t (v := .bool _) (congrArg Value.bool h34) rfl) ?_
          refine WQ_val rfl rfl rfl (fun _ _ => st_mv (v := .bool _) rfl) ?_
          refine WQ_split 44 rfl (fun h44 => ?_) (fun h44 => ?_)
          · have g44 := of_decide_eq_true h44
            refine WQ_valg rfl rfl rfl (congrArg Value.bool h44) rfl rfl (fun _ _ => st_mv (v := .string _) rfl) ?_
            refine WQ_valg rfl rfl rfl (congrArg Value.bool h44) rfl rfl (fun _ _ => st_mv (v := .int _ _) rfl) ?_
            refine WQ_valg rfl rfl rfl (congrArg Value.bool h44) rfl rfl (fun _ _ => st_mv (v := .int _ _) rfl) ?_
            refine WQ_valg rfl rfl rfl (congrArg Value.bool h44) rfl rfl (fun _ _ => st_fieldAddr (off := 1) Tryd.underlying33 rfl rfl ti9 rfl) ?_
            refine WQ_valg rfl rfl rfl (congrArg Value.bool h44) rfl rfl (fun w' hx' => st_load ⟨_, Tryd.underlying9, rfl⟩ rfl (hx'.cell (hb3.cell 1 rfl))) ?_
            refine WQ_valg rfl rfl rfl (congrArg Value.bool h44) rfl rfl (fun _ _ => st_lens Tryd.underlying9 rfl) ?_
            refine WQ_valg rfl rfl rfl (congrArg Value.bool h44) rfl rfl (fun _ _ => st_add rfl rfl (by omega) (by omega)) ?_
            refine WQ_valg rfl rfl rfl (congrArg Value.bool h44) rfl rfl (fun _ _ => (st_slices (a := k) (b := k + p.text.size) (st := text) Tryd.underlying9 rfl (by exact .inr (congrArg some (vint (by omega)))) (by exact .inr (congrArg some (vint (by omega)))) (by omega) (by omega))) ?_
            refine WQ_valg rfl rfl rfl (congrArg Value.bool h44) rfl rfl (fun _ _ => st_fieldAddr (off := 1) Tryd.underlying33 rfl rfl ti9 rfl) ?_
            refine WQ_valg rfl rfl rfl (congrArg Value.bool h44) rfl rfl (fun w' hx' => st_load ⟨_, Tryd.underlying9, rfl⟩ rfl (hx'.cell (hb3.cell 1 rfl))) ?_
            refine WQ_valg rfl rfl rfl (congrArg Value.bool h44) rfl rfl (fun _ _ => st_eqls rfl rfl) ?_
            refine WQ_val rfl rfl rfl (fun _ _ => st_pk_t (v := .bool _) (congrArg Value.bool h44) rfl) ?_
            refine WQ_nil ?_
            intro w5 hx6
            replace hx0 := hx0.ext hx6
            replace hfr := hfr.ext hx6
            replace hto := hto.ext hx6
            replace hpr := hpr.ext hx6
            replace hpw := hpw.ext hx6
            replace hb3 := hb3.ext hx6
            replace hF := hF.ext hx6
            refine W_cond rfl (fun h56 => ?_) (fun h56 => ?_)
            · have g56 := of_decide_eq_true h56
              refine W_region ?_
              refine WL_val rfl rfl rfl (st_mv (v := .slice _ _ _) rfl) ?_
              refine WL_val rfl rfl rfl (st_mv (v := .int _ _) rfl) ?_
              refine WL_val rfl rfl rfl (st_fieldAddr (off := 1) Tryd.underlying33 rfl rfl ti9 rfl) ?_
              refine WL_val rfl rfl rfl (st_load ⟨_, Tryd.underlying9, rfl⟩ rfl (hb3.cell 1 rfl)) ?_
              refine WL_val rfl rfl rfl (st_lens Tryd.underlying9 rfl) ?_
              refine WL_val rfl rfl rfl (st_add rfl rfl (by omega) (by omega)) ?_
              refine WL_val rfl rfl rfl (st_indexAddr (o := 0) (i := k + p.text.size) Tryd.underlying82 ti4 rfl rfl (by exact vint (by omega)) (by omega)) ?_
              refine WL_su (su_store ti4 rfl hto (by rw [List.length_map]; omega) rfl rfl) rfl rfl ?_
              rintro w7 ⟨hnb, hf8⟩
              have hto : Blk w7 g 4 ((to.set (k + p.text.size) true).map Value.bool) := by rw [← mapb_set]; exact hnb
              clear hnb
              have hx0 : Ext w w7 := hx0.trans' hf8 (fun _ _ f => f) (fun k hk e => by have e' : k = g := e; omega)
              have hfr := hfr.fro hf8 (fun e => by have e' : gf = g := e; omega)
              have hb3 := hb3.fro hf8 (fun e => by have e' : b1 = g := e; omega)
              have hpr := hpr.fro hf8 (fun k hk e => by have e' : k = g := e; omega)
              have hpw := hpw.fro hf8 (fun k hk e => by have e' : k = g := e; omega)
              have hF := hF.trans hf8
              refine WL_nil ?_
              refine W_region ?_
              refine WL_val rfl rfl rfl (st_add rfl rfl (by omega) (by omega)) ?_
              refine WL_val rfl rfl rfl (st_mv (v := .int _ _) rfl) ?_
              refine WL_nil ?_
              refine rnd_end ?_ (m - 1) ?_ ?_
              · repeat (first | exact agree_in rfl rfl (agree_refl _ _) | exact agree_refl _ _ | refine agree_in rfl rfl ?_ | refine agree_upd rfl ?_)
              · omega
              · have hseg : seg text k (k + p.text.size) = byts p.text := by rw [← seg_extract, g56]
                exact ⟨k + 1, _, by omega, vec1 rfl, hK.hit h34 (by omega) (by omega) (fun j hj hkj => (Lp_text g24 _).trans ⟨fun e => by have h9 := congrArg List.length e; rw [seg_len _ _ _ hj, byts_length] at h9; omega, fun e => by rw [e]; exact hseg⟩), hto, hF⟩
            · have g56 := of_decide_eq_false h56
              refine W_skip ?_
              refine W_region ?_
              refine WL_val rfl rfl rfl (st_add rfl rfl (by omega) (by omega)) ?_
              refine WL_val rfl rfl rfl (st_mv (v := .int _ _) rfl) ?_
              refine WL_nil ?_
              refine rnd_end ?_ (m - 1) ?_ ?_
              · repeat (first | exact agree_in rfl rfl (agree_refl _ _) | exact agree_refl _ _ | refine agree_in rfl rfl ?_ | refine agree_upd rfl ?_)
              · omega
              · exact ⟨k + 1, _, by omega, vec1 rfl, hK.miss (fun hf j hj hkj hL => by
                  have e := (Lp_text g24 _).1 hL; have h9 := congrArg List.length e; rw [seg_len _ _ _ hj, byts_length] at h9; have h8 : j = k + p.text.size := by omega
                  subst h8; exact g56 (byts_ext (by rw [seg_extract]; exact e))), hto, hF⟩
          · have g44 := of_decide_eq_false h44
            refine WQ_pass rfl rfl rfl (congrArg Value.bool h44) rfl rfl ?_
            refine WQ_pass rfl rfl rfl (congrArg Value.bool h44) rfl rfl ?_
            refine WQ_pass rfl rfl rfl (congrArg Value.bool h44) rfl rfl ?_
            refine WQ_pass rfl rfl rfl (congrArg Value.bool h44) rfl rfl ?_
            refine WQ_pass rfl rfl rfl (congrArg Value.bool h44) rfl rfl ?_
            refine WQ_pass rfl rfl rfl (congrArg Value.bool h44) rfl rfl ?_
            refine WQ_pass rfl rfl rfl (congrArg Value.bool h44) rfl rfl ?_
            refine WQ_pass rfl rfl rfl (congrArg Value.bool h44) rfl rfl ?_
            refine WQ_pass rfl rfl rfl (congrArg Value.bool h44) rfl rfl ?_
            refine WQ_pass rfl rfl rfl (congrArg Value.bool h44) rfl rfl ?_
            refine WQ_pass rfl rfl rfl (congrArg Value.bool h44) rfl rfl ?_
            refine WQ_val rfl rfl rfl (fun _ _ => st_pk_f (v := (.bool false)) (congrArg Value.bool h44) rfl) ?_
            refine WQ_nil ?_
            intro w9 hx10
            replace hx0 := hx0.ext hx10
            replace hfr := hfr.ext hx10
            replace hto := hto.ext hx10
            replace hpr := hpr.ext hx10
            replace hpw := hpw.ext hx10
            replace hb3 := hb3.ext hx10
            replace hF := hF.ext hx10
            refine W_no rfl ?_
            refine W_skip ?_
            refine W_region ?_
            refine WL_val rfl rfl rfl (st_add rfl rfl (by omega) (by omega)) ?_
            refine WL_val rfl rfl rfl (st_mv (v := .int _ _) rfl) ?_
            refine WL_nil ?_
            refine rnd_end ?_ (m - 1) ?_ ?_
            · repeat (first | exact agree_in rfl rfl (agree_refl _ _) | exact agree_refl _ _ | refine agree_in rfl rfl ?_ | refine agree_upd rfl ?_)
            · omega
            · exact ⟨k + 1, _, by omega, vec1 rfl, hK.miss (fun hf j hj hkj hL => by
                have h9 := congrArg List.length ((Lp_text g24 _).1 hL); rw [seg_len _ _ _ hj, byts_length] at h9; omega), hto, hF⟩
        · have g34 := h34
          refine WQ_pass rfl rfl rfl (congrArg Value.bool h34) rfl rfl ?_
          refine WQ_pass rfl rfl rfl (congrArg Value.bool h34) rfl rfl ?_
          refine WQ_pass rfl rfl rfl (congrArg Value.bool h34) rfl rfl ?_
          refine WQ_pass rfl rfl rfl (congrArg Value.bool h34) rfl rfl ?_
          refine WQ_pass rfl rfl rfl (congrArg Value.bool h34) rfl rfl ?_
          refine WQ_pass rfl rfl rfl (congrArg Value.bool h34) rfl rfl ?_
          refine WQ_pass rfl rfl rfl (congrArg Value.bool h34) rfl rfl ?_
          refine WQ_pass rfl rfl rfl (congrArg Value.bool h34) rfl rfl ?_
          refine WQ_val rfl rfl rfl (fun _ _ => st_pk_f (v := (.bool false)) (congrArg Value.bool h34) rfl) ?_
          refine WQ_val rfl rfl rfl (fun _ _ => st_mv (v := .bool _) rfl) ?_
          refine WQ_pass rfl rfl rfl rfl rfl rfl ?_
          refine WQ_pass rfl rfl rfl rfl rfl rfl ?_
          refine WQ_pass rfl rfl rfl rfl rfl rfl ?_
          refine WQ_pass rfl rfl rfl rfl rfl rfl ?_
          refine WQ_pass rfl rfl rfl rfl rfl rfl ?_
          refine WQ_pass rfl rfl rfl rfl rfl rfl ?_
          refine WQ_pass rfl rfl rfl rfl rfl rfl ?_
          refine WQ_pass rfl rfl rfl rfl rfl rfl ?_
          refine WQ_pass rfl rfl rfl rfl rfl rfl ?_
          refine WQ_pass rfl rfl rfl rfl rfl rfl ?_
          refine WQ_pass rfl rfl rfl rfl rfl rfl ?_
          refine WQ_val rfl rfl rfl (fun _ _ => st_pk_f (v := (.bool false)) rfl rfl) ?_
          refine WQ_nil ?_
          intro w11 hx12
          replace hx0 := hx0.ext hx12
          replace hfr := hfr.ext hx12
          replace hto := hto.ext hx12
          replace hpr := hpr.ext hx12
          replace hpw := hpw.ext hx12
          replace hb3 := hb3.ext hx12
          replace hF := hF.ext hx12
          refine W_no rfl ?_
          refine W_skip ?_
          refine W_region ?_
          refine WL_val rfl rfl rfl (st_add rfl rfl (by omega) (by omega)) ?_
          refine WL_val rfl rfl rfl (st_mv (v := .int _ _) rfl) ?_
          refine WL_nil ?_
          refine rnd_end ?_ (m - 1) ?_ ?_
          · repeat (first | exact agree_in rfl rfl (agree_refl _ _) | exact agree_refl _ _ | refine agree_in rfl rfl ?_ | refine agree_upd rfl ?_)
          · omega
          · exact ⟨k + 1, _, by omega, vec1 rfl, hK.miss (fun hf j hj hkj hL => by
              rw [h34] at hf; cases hf), hto, hF⟩
      · have g29 := of_decide_eq_false h29
        refine W_exit ?_
        refine W_seq ?_
        have hP : Pas (Lp p) text fr to := hK.done (by omega)
        refine W_region ?_
        refine WL_val rfl rfl rfl (st_mv (v := .slice _ _ _) rfl) ?_
        refine WL_val rfl rfl rfl (st_as (v := .slice _ _ _) rfl) ?_
        refine WL_nil ?_
        refine W_ret ?_
        refine qr1 ?_
        exact ⟨_, g, rfl, hto, (by omega), hP, hx0⟩
  · have g24 := of_decide_eq_false h24
    refine W_seq ?_
    refine W_seq ?_
    refine W_region ?_
    refine WL_val rfl rfl rfl (st_eql rfl rfl) ?_
    refine WL_val rfl rfl rfl (st_as (v := .bool _) rfl) ?_
    refine WL_nil ?_
    refine W_cond rfl (fun h65 => ?_) (fun h65 => ?_)
    · have g65 := of_decide_eq_true h65
      refine W_skip ?_
      refine W_yes (congrArg Value.bool h65) ?_
      refine W_seq ?_
      have hk2 : p.kind = 2 ∨ p.kind = 5 := by omega
      refine W_region ?_
      refine WL_val rfl rfl rfl (st_mv (v := .slice _ _ _) rfl) ?_
      refine WL_val rfl rfl rfl (st_len Tryd.underlying82 rfl) ?_
      refine WL_val rfl rfl rfl (st_mv (v := (.int .i64 0)) rfl) ?_
      refine WL_nil ?_
      refine W_block ?_
      refine W_loop [70] [10, 11, 70, 71, 72, 73, 74, 75, 76, 77, 78, 79, 80, 81, 82, 83, 84, 85, 86, 87, 88, 89, 90, 91, 92, 93] (fun m vs w1 => ∃ (k : Nat) (to : List Bool), k + m = fr.length ∧ vs = [.int .i64 (k : Int)] ∧ PasK (Lp p) text fr to k ∧ Blk w1 g 4 (to.map Value.bool) ∧ Fro (· = g) wm w1) ?_ ?_
      · exact ⟨fr.length, 0, _, by omega, rfl, PasK.zero, hto, Fro.refl _ _⟩
      · intro m vs w13 u hI
        obtain ⟨k, to, hk, rfl, hK, hto, hF⟩ := hI
        have hx0 : Ext w w13 := hx0.trans' hF (fun _ _ f => f) (fun k hk e => by have e' : k = g := e; omega)
        have hfr := hfr.fro hF (fun e => by have e' : gf = g := e; omega)
        have hb3 := hb3.fro hF (fun e => by have e' : b1 = g := e; omega)
        have hpr := hpr.fro hF (fun k hk e => by have e' : k = g := e; omega)
        have hpw := hpw.fro hF (fun k hk e => by have e' : k = g := e; omega)
        have hlt := hK.1
        refine W_seq ?_
        refine W_region ?_
        refine WL_val rfl rfl rfl (st_lss rfl rfl) ?_
        refine WL_nil ?_
        refine W_seq ?_
        refine W_cond rfl (fun h71 => ?_) (fun h71 => ?_)
        · have g71 := of_decide_eq_true h71
          refine W_skip ?_
          refine W_seq ?_
          refine W_block ?_
          refine W_seq ?_
          refine W_region ?_
          refine WL_val rfl rfl rfl (st_mv (v := .int _ _) rfl) ?_
          refine WL_val rfl rfl rfl (st_indexAddr (o := 0) Tryd.underlying82 ti4 rfl rfl rfl (by omega)) ?_
          refine WL_val rfl rfl rfl (st_load ⟨_, Tryd.underlying4, rfl⟩ rfl (hfr.cell _ (mapb (by omega)))) ?_
          refine WL_val rfl rfl rfl (st_as (v := .int _ _) rfl) ?_
          refine WL_val rfl rfl rfl (st_as (v := .bool _) rfl) ?_
          refine WL_nil ?_
          refine W_seq ?_
          refine W_quiet (Ext w13) mixed (by kernel_rfl) ((Ext.refl _).drew _) ?_
          refine WQ_val rfl rfl rfl (fun _ _ => st_mv (v := .bool _) rfl) ?_
          refine WQ_val rfl rfl rfl (fun _ _ => st_mv (v := .bool _) rfl) ?_
          refine WQ_split 76 rfl (fun h76 => ?_) (fun h76 => ?_)
          · have g76 := h76
            refine WQ_valg rfl rfl rfl (congrArg Value.bool h76) rfl rfl (fun _ _ => st_mv (v := .int _ _) rfl) ?_
            refine WQ_valg rfl rfl rfl (congrArg Value.bool h76) rfl rfl (fun _ _ => st_mv (v := .string _) rfl) ?_
            refine WQ_valg rfl rfl rfl (congrArg Value.bool h76) rfl rfl (fun _ _ => st_lens Tryd.underlying9 rfl) ?_
            refine WQ_valg rfl rfl rfl (congrArg Value.bool h76) rfl rfl (fun _ _ => st_lss rfl rfl) ?_
            refine WQ_val rfl rfl rfl (fun _ _ => st_pk_t (v := .bool _) (congrArg Value.bool h76) rfl) ?_
            refine WQ_val rfl rfl rfl (fun _ _ => st_mv (v := .bool _) rfl) ?_
            refine WQ_split 82 rfl (fun h82 => ?_) (fun h82 => ?_)
            · have g82 := of_decide_eq_true h82
              refine WQ_valg rfl rfl rfl (congrArg Value.bool h82) rfl rfl (fun w' hx' => st_loada ⟨_, Tryd.underlying33, rfl⟩ ti33 rfl (hb3.cells.ext hx') rfl) ?_
              refine WQ_valg rfl rfl rfl (congrArg Value.bool h82) rfl rfl (fun _ _ => st_mv (v := .string _) rfl) ?_
              refine WQ_valg rfl rfl rfl (congrArg Value.bool h82) rfl rfl (fun _ _ => st_mv (v := .int _ _) rfl) ?_
              refine WQ_valg rfl rfl rfl (congrArg Value.bool h82) rfl rfl (fun _ _ => st_index (s := text) (i := k) Tryd.underlying9 rfl rfl (by omega)) ?_
              refine WQ_callg rfl rfl rfl (congrArg Value.bool h82) rfl rfl (fun w' hx' => ((oneByte_ok p (text[k]'(by omega)) _ _ _ _ _ w' (hpr.ext hx')).mono (by rintro _ _ ⟨rfl, hy⟩; exact ⟨rfl, Fro.trans hx' hy⟩))) (fun h _ => (ent_go rfl) h) ?_
              refine WQ_val rfl rfl rfl (fun _ _ => st_pk_t (v := .bool _) (congrArg Value.bool h82) rfl) ?_
              refine WQ_nil ?_
              intro w14 hx15
              replace hx0 := hx0.ext hx15
              replace hfr := hfr.ext hx15
              replace hto := hto.ext hx15
              replace hpr := hpr.ext hx15
              replace hpw := hpw.ext hx15
              replace hb3 := hb3.ext hx15
              replace hF := hF.ext hx15
              refine W_cond rfl (fun h88 => ?_) (fun h88 => ?_)
              · have g88 := h88
                refine W_region ?_
                refine WL_val rfl rfl rfl (st_mv (v := .slice _ _ _) rfl) ?_
                refine WL_val rfl rfl rfl (st_mv (v := .int _ _) rfl) ?_
                refine WL_val rfl rfl rfl (st_add rfl rfl (by omega) (by omega)) ?_
                refine WL_val rfl rfl rfl (st_indexAddr (o := 0) (i := k + 1) Tryd.underlying82 ti4 rfl rfl (by exact vint (by omega)) (by omega)) ?_
                refine WL_su (su_store ti4 rfl hto (by rw [List.length_map]; omega) rfl rfl) rfl rfl ?_
                rintro w16 ⟨hnb, hf17⟩
                have hto : Blk w16 g 4 ((to.set (k + 1) true).map Value.bool) := by rw [← mapb_set]; exact hnb
                clear hnb
                have hx0 : Ext w w16 := hx0.trans' hf17 (fun _ _ f => f) (fun k hk e => by have e' : k = g := e; omega)
                have hfr := hfr.fro hf17 (fun e => by have e' : gf = g := e; omega)
                have hb3 := hb3.fro hf17 (fun e => by have e' : b1 = g := e; omega)
                have hpr := hpr.fro hf17 (fun k hk e => by have e' : k = g := e; omega)
                have hpw := hpw.fro hf17 (fun k hk e => by have e' : k = g := e; omega)
                have hF := hF.trans hf17
                refine WL_nil ?_
                refine W_region ?_
                refine WL_val rfl rfl rfl (st_add rfl rfl (by omega) (by omega)) ?_
                refine WL_val rfl rfl rfl (st_mv (v := .int _ _) rfl) ?_
                refine WL_nil ?_
                refine rnd_end ?_ (m - 1) ?_ ?_
                · repeat (first | exact agree_in rfl rfl (agree_refl _ _) | exact agree_refl _ _ | refine agree_in rfl rfl ?_ | refine agree_upd rfl ?_)
                · omega
                · exact ⟨k + 1, _, by omega, vec1 rfl, hK.hit h76 (by omega) (by omega) (fun j hj hkj => (Lp_onep hk2 _).trans ⟨fun ⟨c, e, _⟩ => by have h9 := congrArg List.length e; rw [seg_len _ _ _ hj] at h9; simp at h9; omega, fun e => by subst e; exact ⟨_, seg_one text k (by omega), h88⟩⟩), hto, hF⟩
              · have g88 := h88
                refine W_skip ?_
                refine W_region ?_
                refine WL_val rfl rfl rfl (st_add rfl rfl (by omega) (by omega)) ?_
                refine WL_val rfl rfl rfl (st_mv (v := .int _ _) rfl) ?_
                refine WL_nil ?_
                refine rnd_end ?_ (m - 1) ?_ ?_
                · repeat (first | exact agree_in rfl rfl (agree_refl _ _) | exact agree_refl _ _ | refine agree_in rfl rfl ?_ | refine agree_upd rfl ?_)
                · omega
                · exact ⟨k + 1, _, by omega, vec1 rfl, hK.miss (fun hf j hj hkj hL => by
                    obtain ⟨c, e, hc⟩ := (Lp_onep hk2 _).1 hL; have h9 := congrArg List.length e; rw [seg_len _ _ _ hj] at h9; simp at h9; have h8 : j = k + 1 := by omega
                    subst h8; rw [seg_one text k (by omega)] at e; injection e with e; rw [← e, h88] at hc; cases hc), hto, hF⟩
            · have g82 := of_decide_eq_false h82
              refine WQ_pass rfl rfl rfl (congrArg Value.bool h82) rfl rfl ?_
              refine WQ_pass rfl rfl rfl (congrArg Value.bool h82) rfl rfl ?_
              refine WQ_pass rfl rfl rfl (congrArg Value.bool h82) rfl rfl ?_
              refine WQ_pass rfl rfl rfl (congrArg Value.bool h82) rfl rfl ?_
              refine WQ_pass rfl rfl rfl (congrArg Value.bool h82) rfl rfl ?_
              refine WQ_val rfl rfl rfl (fun _ _ => st_pk_f (v := (.bool false)) (congrArg Value.bool h82) rfl) ?_
              refine WQ_nil ?_
              intro w18 hx19
              replace hx0 := hx0.ext hx19
              replace hfr := hfr.ext hx19
              replace hto := hto.ext hx19
              replace hpr := hpr.ext hx19
              replace hpw := hpw.ext hx19
              replace hb3 := hb3.ext hx19
              replace hF := hF.ext hx19
              refine W_no rfl ?_
              refine W_skip ?_
              refine W_region ?_
              refine WL_val rfl rfl rfl (st_add rfl rfl (by omega) (by omega)) ?_
              refine WL_val rfl rfl rfl (st_mv (v := .int _ _) rfl) ?_
              refine WL_nil ?_
              refine rnd_end ?_ (m - 1) ?_ ?_
              · repeat (first | exact agree_in rfl rfl (agree_refl _ _) | exact agree_refl _ _ | refine agree_in rfl rfl ?_ | refine agree_upd rfl ?_)
              · omega
              · exact ⟨k + 1, _, by omega, vec1 rfl, hK.miss (fun hf j hj hkj hL => by
                  obtain ⟨c, e, _⟩ := (Lp_onep hk2 _).1 hL; have h9 := congrArg List.length e; rw [seg_len _ _ _ hj] at h9; simp at h9; omega), hto, hF⟩
          · have g76 := h76
            refine WQ_pass rfl rfl rfl (congrArg Value.bool h76) rfl rfl ?_
            refine WQ_pass rfl rfl rfl (congrArg Value.bool h76) rfl rfl ?_
            refine WQ_pass rfl rfl rfl (congrArg Value.bool h76) rfl rfl ?_
            refine WQ_pass rfl rfl rfl (congrArg Value.bool h76) rfl rfl ?_
            refine WQ_val rfl rfl rfl (fun _ _ => st_pk_f (v := (.bool false)) (congrArg Value.bool h76) rfl) ?_
            refine WQ_val rfl rfl rfl (fun _ _ => st_mv (v := .bool _) rfl) ?_
            refine WQ_pass rfl rfl rfl rfl rfl rfl ?_
            refine WQ_pass rfl rfl rfl rfl rfl rfl ?_
            refine WQ_pass rfl rfl rfl rfl rfl rfl ?_
            refine WQ_pass rfl rfl rfl rfl rfl rfl ?_
            refine WQ_pass rfl rfl rfl rfl rfl rfl ?_
            refine WQ_val rfl rfl rfl (fun _ _ => st_pk_f (v := (.bool false)) rfl rfl) ?_
            refine WQ_nil ?_
            intro w20 hx21
            replace hx0 := hx0.ext hx21
            replace hfr := hfr.ext hx21
            replace hto := hto.ext hx21
            replace hpr := hpr.ext hx21
            replace hpw := hpw.ext hx21
            replace hb3 := hb3.ext hx21
            replace hF := hF.ext hx21
            refine W_no rfl ?_
            refine W_skip ?_
            refine W_region ?_
            refine WL_val rfl rfl rfl (st_add rfl rfl (by omega) (by omega)) ?_
            refine WL_val rfl rfl rfl (st_mv (v := .int _ _) rfl) ?_
            refine WL_nil ?_
            refine rnd_end ?_ (m - 1) ?_ ?_
            · repeat (first | exact agree_in rfl rfl (agree_refl _ _) | exact agree_refl _ _ | refine agree_in rfl rfl ?_ | refine agree_upd rfl ?_)
            · omega
            · exact ⟨k + 1, _, by omega, vec1 rfl, hK.miss (fun hf j hj hkj hL => by
                rw [h76] at hf; cases hf), hto, hF⟩
        · have g71 := of_decide_eq_false h71
          refine W_exit ?_
          refine W_seq ?_
          have hP : Pas (Lp p) text fr to := hK.done (by omega)
          refine W_region ?_
          refine WL_val rfl rfl rfl (st_mv (v := .slice _ _ _) rfl) ?_
          refine WL_val rfl rfl rfl (st_as (v := .slice _ _ _) rfl) ?_
          refine WL_nil ?_
          refine W_ret ?_
          refine qr1 ?_
          exact ⟨_, g, rfl, hto, (by omega), hP, hx0⟩
    · have g65 := of_decide_eq_false h65
      refine W_region ?_
      refine WL_val rfl rfl rfl (st_eql rfl rfl) ?_
      refine WL_val rfl rfl rfl (st_as (v := .bool _) rfl) ?_
      refine WL_nil ?_
      refine W_cond rfl (fun h65 => ?_) (fun h65 => ?_)
      · have g65 := of_decide_eq_true h65
        refine W_seq ?_
        have hk2 : p.kind = 2 ∨ p.kind = 5 := by omega
        refine W_region ?_
        refine WL_val rfl rfl rfl (st_mv (v := .slice _ _ _) rfl) ?_
        refine WL_val rfl rfl rfl (st_len Tryd.underlying82 rfl) ?_
        refine WL_val rfl rfl rfl (st_mv (v := (.int .i64 0)) rfl) ?_
        refine WL_nil ?_
        refine W_block ?_
        refine W_loop [70] [10, 11, 70, 71, 72, 73, 74, 75, 76, 77, 78, 79, 80, 81, 82, 83, 84, 85, 86, 87, 88, 89, 90, 91, 92, 93] (fun m vs w1 => ∃ (k : Nat) (to : List Bool), k + m = fr.length ∧ vs = [.int .i64 (k : Int)] ∧ PasK (Lp p) text fr to k ∧ Blk w1 g 4 (to.map Value.bool) ∧ Fro (· = g) wm w1) ?_ ?_
        · exact ⟨fr.length, 0, _, by omega, rfl, PasK.zero, hto, Fro.refl _ _⟩
        · intro m vs w22 u hI
          obtain ⟨k, to, hk, rfl, hK, hto, hF⟩ := hI
          have hx0 : Ext w w22 := hx0.trans' hF (fun _ _ f => f) (fun k hk e => by have e' : k = g := e; omega)
          have hfr := hfr.fro hF (fun e => by have e' : gf = g := e; omega)
          have hb3 := hb3.fro hF (fun e => by have e' : b1 = g := e; omega)
          have hpr := hpr.fro hF (fun k hk e => by have e' : k = g := e; omega)
          have hpw := hpw.fro hF (fun k hk e => by have e' : k = g := e; omega)
          have hlt := hK.1
          refine W_seq ?_
          refine W_region ?_
          refine WL_val rfl rfl rfl (st_lss rfl rfl) ?_
          refine WL_nil ?_
          refine W_seq ?_
          refine W_cond rfl (fun h71 => ?_) (fun h71 => ?_)
          · have g71 := of_decide_eq_true h71
            refine W_skip ?_
            refine W_seq ?_
            refine W_block ?_
            refine W_seq ?_
            refine W_region ?_
            refine WL_val rfl rfl rfl (st_mv (v := .int _ _) rfl) ?_
            refine WL_val rfl rfl rfl (st_indexAddr (o := 0) Tryd.underlying82 ti4 rfl rfl rfl (by omega)) ?_
            refine WL_val rfl rfl rfl (st_load ⟨_, Tryd.underlying4, rfl⟩ rfl (hfr.cell _ (mapb (by omega)))) ?_
            refine WL_val rfl rfl rfl (st_as (v := .int _ _) rfl) ?_
            refine WL_val rfl rfl rfl (st_as (v := .bool _) rfl) ?_
            refine WL_nil ?_
            refine W_seq ?_
            refine W_quiet (Ext w22) mixed (by kernel_rfl) ((Ext.refl _).drew _) ?_
            refine WQ_val rfl rfl rfl (fun _ _ => st_mv (v := .bool _) rfl) ?_
            refine WQ_val rfl rfl rfl (fun _ _ => st_mv (v := .bool _) rfl) ?_
            refine WQ_split 76 rfl (fun h76 => ?_) (fun h76 => ?_)
            · have g76 := h76
              refine WQ_valg rfl rfl rfl (congrArg Value.bool h76) rfl rfl (fun _ _ => st_mv (v := .int _ _) rfl) ?_
              refine WQ_valg rfl rfl rfl (congrArg Value.bool h76) rfl rfl (fun _ _ => st_mv (v := .string _) rfl) ?_
              refine WQ_valg rfl rfl rfl (congrArg Value.bool h76) rfl rfl (fun _ _ => st_lens Tryd.underlying9 rfl) ?_
              refine WQ_valg rfl rfl rfl (congrArg Value.bool h76) rfl rfl (fun _ _ => st_lss rfl rfl) ?_
              refine WQ_val rfl rfl rfl (fun _ _ => st_pk_t (v := .bool _) (congrArg Value.bool h76) rfl) ?_
              refine WQ_val rfl rfl rfl (fun _ _ => st_mv (v := .bool _) rfl) ?_
              refine WQ_split 82 rfl (fun h82 => ?_) (fun h82 => ?_)
              · have g82 := of_decide_eq_true h82
                refine WQ_valg rfl rfl rfl (congrArg Value.bool h82) rfl rfl (fun w' hx' => st_loada ⟨_, Tryd.underlying33, rfl⟩ ti33 rfl (hb3.cells.ext hx') rfl) ?_
                refine WQ_valg rfl rfl rfl (congrArg Value.bool h82) rfl rfl (fun _ _ => st_mv (v := .string _) rfl) ?_
                refine WQ_valg rfl rfl rfl (congrArg Value.bool h82) rfl rfl (fun _ _ => st_mv (v := .int _ _) rfl) ?_
                refine WQ_valg rfl rfl rfl (congrArg Value.bool h82) rfl rfl (fun _ _ => st_index (s := text) (i := k) Tryd.underlying9 rfl rfl (by omega)) ?_
                refine WQ_callg rfl rfl rfl (congrArg Value.bool h82) rfl rfl (fun w' hx' => ((oneByte_ok p (text[k]'(by omega)) _ _ _ _ _ w' (hpr.ext hx')).mono (by rintro _ _ ⟨rfl, hy⟩; exact ⟨rfl, Fro.trans hx' hy⟩))) (fun h _ => (ent_go rfl) h) ?_
                refine WQ_val rfl rfl rfl (fun _ _ => st_pk_t (v := .bool _) (congrArg Value.bool h82) rfl) ?_
                refine WQ_nil ?_
                intro w23 hx24
                replace hx0 := hx0.ext hx24
                replace hfr := hfr.ext hx24
                replace hto := hto.ext hx24
                replace hpr := hpr.ext hx24
                replace hpw := hpw.ext hx24
                replace hb3 := hb3.ext hx24
                replace hF := hF.ext hx24
                refine W_cond rfl (fun h88 => ?_) (fun h88 => ?_)
                · have g88 := h88
                  refine W_region ?_
                  refine WL_val rfl rfl rfl (st_mv (v := .slice _ _ _) rfl) ?_
                  refine WL_val rfl rfl rfl (st_mv (v := .int _ _) rfl) ?_
                  refine WL_val rfl rfl rfl (st_add rfl rfl (by omega) (by omega)) ?_
                  refine WL_val rfl rfl rfl (st_indexAddr (o := 0) (i := k + 1) Tryd.underlying82 ti4 rfl rfl (by exact vint (by omega)) (by omega)) ?_
                  refine WL_su (su_store ti4 rfl hto (by rw [List.length_map]; omega) rfl rfl) rfl rfl ?_
                  rintro w25 ⟨hnb, hf26⟩
                  have hto : Blk w25 g 4 ((to.set (k + 1) true).map Value.bool) := by rw [← mapb_set]; exact hnb
                  clear hnb
                  have hx0 : Ext w w25 := hx0.trans' hf26 (fun _ _ f => f) (fun k hk e => by have e' : k = g := e; omega)
                  have hfr := hfr.fro hf26 (fun e => by have e' : gf = g := e; omega)
                  have hb3 := hb3.fro hf26 (fun e => by have e' : b1 = g := e; omega)
                  have hpr := hpr.fro hf26 (fun k hk e => by have e' : k = g := e; omega)
                  have hpw := hpw.fro hf26 (fun k hk e => by have e' : k = g := e; omega)
                  have hF := hF.trans hf26
                  refine WL_nil ?_
                  refine W_region ?_
                  refine WL_val rfl rfl rfl (st_add rfl rfl (by omega) (by omega)) ?_
                  refine WL_val rfl rfl rfl (st_mv (v := .int _ _) rfl) ?_
                  refine WL_nil ?_
                  refine rnd_end ?_ (m - 1) ?_ ?_
                  · repeat (first | exact agree_in rfl rfl (agree_refl _ _) | exact agree_refl _ _ | refine agree_in rfl rfl ?_ | refine agree_upd rfl ?_)
                  · omega
                  · exact ⟨k + 1, _, by omega, vec1 rfl, hK.hit h76 (by omega) (by omega) (fun j hj hkj => (Lp_onep hk2 _).trans ⟨fun ⟨c, e, _⟩ => by have h9 := congrArg List.length e; rw [seg_len _ _ _ hj] at h9; simp at h9; omega, fun e => by subst e; exact ⟨_, seg_one text k (by omega), h88⟩⟩), hto, hF⟩
                · have g88 := h88
                  refine W_skip ?_
                  refine W_region ?_
                  refine WL_val rfl rfl rfl (st_add rfl rfl (by omega) (by omega)) ?_
                  refine WL_val rfl rfl rfl (st_mv (v := .int _ _) rfl) ?_
                  refine WL_nil ?_
                  refine rnd_end ?_ (m - 1) ?_ ?_
                  · repeat (first | exact agree_in rfl rfl (agree_refl _ _) | exact agree_refl _ _ | refine agree_in rfl rfl ?_ | refine agree_upd rfl ?_)
                  · omega
                  · exact ⟨k + 1, _, by omega, vec1 rfl, hK.miss (fun hf j hj hkj hL => by
                      obtain ⟨c, e, hc⟩ := (Lp_onep hk2 _).1 hL; have h9 := congrArg List.length e; rw [seg_len _ _ _ hj] at h9; simp at h9; have h8 : j = k + 1 := by omega
                      subst h8; rw [seg_one text k (by omega)] at e; injection e with e; rw [← e, h88] at hc; cases hc), hto, hF⟩
              · have g82 := of_decide_eq_false h82
                refine WQ_pass rfl rfl rfl (congrArg Value.bool h82) rfl rfl ?_
                refine WQ_pass rfl rfl rfl (congrArg Value.bool h82) rfl rfl ?_
                refine WQ_pass rfl rfl rfl (congrArg Value.bool h82) rfl rfl ?_
                refine WQ_pass rfl rfl rfl (congrArg Value.bool h82) rfl rfl ?_
                refine WQ_pass rfl rfl rfl (congrArg Value.bool h82) rfl rfl ?_
                refine WQ_val rfl rfl rfl (fun _ _ => st_pk_f (v := (.bool false)) (congrArg Value.bool h82) rfl) ?_
                refine WQ_nil ?_
                intro w27 hx28
                replace hx0 := hx0.ext hx28
                replace hfr := hfr.ext hx28
                replace hto := hto.ext hx28
                replace hpr := hpr.ext hx28
                replace hpw := hpw.ext hx28
                replace hb3 := hb3.ext hx28
                replace hF := hF.ext hx28
                refine W_no rfl ?_
                refine W_skip ?_
                refine W_region ?_
                refine WL_val rfl rfl rfl (st_add rfl rfl (by omega) (by omega)) ?_
                refine WL_val rfl rfl rfl (st_mv (v := .int _ _) rfl) ?_
                refine WL_nil ?_
                refine rnd_end ?_ (m - 1) ?_ ?_
                · repeat (first | exact agree_in rfl rfl (agree_refl _ _) | exact agree_refl _ _ | refine agree_in rfl rfl ?_ | refine agree_upd rfl ?_)
                · omega
                · exact ⟨k + 1, _, by omega, vec1 rfl, hK.miss (fun hf j hj hkj hL => by
                    obtain ⟨c, e, _⟩ := (Lp_onep hk2 _).1 hL; have h9 := congrArg List.length e; rw [seg_len _ _ _ hj] at h9; simp at h9; omega), hto, hF⟩
            · have g76 := h76
              refine WQ_pass rfl rfl rfl (congrArg Value.bool h76) rfl rfl ?_
              refine WQ_pass rfl rfl rfl (congrArg Value.bool h76) rfl rfl ?_
              refine WQ_pass rfl rfl rfl (congrArg Value.bool h76) rfl rfl ?_
              refine WQ_pass rfl rfl rfl (congrArg Value.bool h76) rfl rfl ?_
              refine WQ_val rfl rfl rfl (fun _ _ => st_pk_f (v := (.bool false)) (congrArg Value.bool h76) rfl) ?_
              refine WQ_val rfl rfl rfl (fun _ _ => st_mv (v := .bool _) rfl) ?_
              refine WQ_pass rfl rfl rfl rfl rfl rfl ?_
              refine WQ_pass rfl rfl rfl rfl rfl rfl ?_
              refine WQ_pass rfl rfl rfl rfl rfl rfl ?_
              refine WQ_pass rfl rfl rfl rfl rfl rfl ?_
              refine WQ_pass rfl rfl rfl rfl rfl rfl ?_
              refine WQ_val rfl rfl rfl (fun _ _ => st_pk_f (v := (.bool false)) rfl rfl) ?_
              refine WQ_nil ?_
              intro w29 hx30
              replace hx0 := hx0.ext hx30
              replace hfr := hfr.ext hx30
              replace hto := hto.ext hx30
              replace hpr := hpr.ext hx30
              replace hpw := hpw.ext hx30
              replace hb3 := hb3.ext hx30
              replace hF := hF.ext hx30
              refine W_no rfl ?_
              refine W_skip ?_
              refine W_region ?_
              refine WL_val rfl rfl rfl (st_add rfl rfl (by omega) (by omega)) ?_
              refine WL_val rfl rfl rfl (st_mv (v := .int _ _) rfl) ?_
              refine WL_nil ?_
              refine rnd_end ?_ (m - 1) ?_ ?_
              · repeat (first | exact agree_in rfl rfl (agree_refl _ _) | exact agree_refl _ _ | refine agree_in rfl rfl ?_ | refine agree_upd rfl ?_)
              · omega
              · exact ⟨k + 1, _, by omega, vec1 rfl, hK.miss (fun hf j hj hkj hL => by
                  rw [h76] at hf; cases hf), hto, hF⟩
          · have g71 := of_decide_eq_false h71
            refine W_exit ?_
            refine W_seq ?_
            have hP : Pas (Lp p) text fr to := hK.done (by omega)
            refine W_region ?_
            refine WL_val rfl rfl rfl (st_mv (v := .slice _ _ _) rfl) ?_
            refine WL_val rfl rfl rfl (st_as (v := .slice _ _ _) rfl) ?_
            refine WL_nil ?_
            refine W_ret ?_
            refine qr1 ?_
            exact ⟨_, g, rfl, hto, (by omega), hP, hx0⟩
      · have g65 := of_decide_eq_false h65
        refine W_seq ?_
        refine W_seq ?_
        refine W_region ?_
        refine WL_val rfl rfl rfl (st_eql rfl rfl) ?_
        refine WL_val rfl rfl rfl (st_as (v := .bool _) rfl) ?_
        refine WL_nil ?_
        refine W_cond rfl (fun h94 => ?_) (fun h94 => ?_)
        · have g94 := of_decide_eq_true h94
          refine W_skip ?_
          refine W_yes (congrArg Value.bool h94) ?_
          refine W_seq ?_
          have hk3 : p.kind = 3 ∨ p.kind = 4 := by omega
          refine W_region ?_
          refine WL_val rfl rfl rfl (st_as (v := (.bool false)) rfl) ?_
          refine WL_nil ?_
          refine W_seq ?_
          refine W_region ?_
          refine WL_val rfl rfl rfl (st_mv (v := .slice _ _ _) rfl) ?_
          refine WL_val rfl rfl rfl (st_len Tryd.underlying82 rfl) ?_
          refine WL_val rfl rfl rfl (st_mv (v := (.int .i64 0)) rfl) ?_
          refine WL_nil ?_
          refine W_block ?_
          refine W_loop [12, 99] [12, 13, 14, 99, 100, 101, 102, 103, 104, 105, 106, 107, 108, 109, 110, 111, 112, 113, 114, 115, 116, 117, 118, 119, 120, 121, 122, 123, 124, 125, 126, 127] (fun m vs w1 => ∃ (k : Nat) (to : List Bool) (on : Bool), k + m = fr.length ∧ vs = [.bool on, .int .i64 (k : Int)] ∧ Sta p text fr k to on ∧ Blk w1 g 4 (to.map Value.bool) ∧ Fro (· = g) wm w1) ?_ ?_
          · exact ⟨fr.length, 0, _, _, by omega, rfl, Sta.zero, hto, Fro.refl _ _⟩
          · intro m vs w31 u hI
            obtain ⟨k, to, on, hk, rfl, hS, hto, hF⟩ := hI
            have hx0 : Ext w w31 := hx0.trans' hF (fun _ _ f => f) (fun k hk e => by have e' : k = g := e; omega)
            have hfr := hfr.fro hF (fun e => by have e' : gf = g := e; omega)
            have hb3 := hb3.fro hF (fun e => by have e' : b1 = g := e; omega)
            have hpr := hpr.fro hF (fun k hk e => by have e' : k = g := e; omega)
            have hpw := hpw.fro hF (fun k hk e => by have e' : k = g := e; omega)
            have hlt := hS.1
            refine W_seq ?_
            refine W_region ?_
            refine WL_val rfl rfl rfl (st_lss rfl rfl) ?_
            refine WL_nil ?_
            refine W_seq ?_
            refine W_cond rfl (fun h100 => ?_) (fun h100 => ?_)
            · have g100 := of_decide_eq_true h100
              refine W_skip ?_
              refine W_seq ?_
              refine W_block ?_
              refine W_seq ?_
              refine W_region ?_
              refine WL_val rfl rfl rfl (st_mv (v := .int _ _) rfl) ?_
              refine WL_val rfl rfl rfl (st_indexAddr (o := 0) Tryd.underlying82 ti4 rfl rfl rfl (by omega)) ?_
              refine WL_val rfl rfl rfl (st_load ⟨_, Tryd.underlying4, rfl⟩ rfl (hfr.cell _ (mapb (by omega)))) ?_
              refine WL_val rfl rfl rfl (st_as (v := .int _ _) rfl) ?_
              refine WL_val rfl rfl rfl (st_as (v := .bool _) rfl) ?_
              refine WL_nil ?_
              refine W_seq ?_
              refine W_region ?_
              refine WL_val rfl rfl rfl (st_mv (v := .bool _) rfl) ?_
              refine WL_val rfl rfl rfl (st_mv (v := .bool _) rfl) ?_
              refine WL_split 105 rfl (fun h105 => ?_) (fun h105 => ?_)
              · have g105 := h105
                refine WL_pass rfl rfl rfl (congrArg Value.bool h105) rfl rfl ?_
                refine WL_val rfl rfl rfl (st_pk_t (v := (.bool true)) (congrArg Value.bool h105) rfl) ?_
                refine WL_val rfl rfl rfl (st_as (v := .bool _) rfl) ?_
                refine WL_nil ?_
                refine W_seq ?_
                refine W_region ?_
                refine WL_val rfl rfl rfl (st_mv (v := .slice _ _ _) rfl) ?_
                refine WL_val rfl rfl rfl (st_mv (v := .int _ _) rfl) ?_
                refine WL_val rfl rfl rfl (st_mv (v := .bool _) rfl) ?_
                refine WL_val rfl rfl rfl (st_indexAddr (o := 0) Tryd.underlying82 ti4 rfl rfl rfl (by omega)) ?_
                refine WL_su (su_store ti4 rfl hto (by rw [List.length_map]; omega) rfl rfl) rfl rfl ?_
                rintro w32 ⟨hnb, hf33⟩
                have hto : Blk w32 g 4 ((to.set (k) true).map Value.bool) := by rw [← mapb_set]; exact hnb
                clear hnb
                have hx0 : Ext w w32 := hx0.trans' hf33 (fun _ _ f => f) (fun k hk e => by have e' : k = g := e; omega)
                have hfr := hfr.fro hf33 (fun e => by have e' : gf = g := e; omega)
                have hb3 := hb3.fro hf33 (fun e => by have e' : b1 = g := e; omega)
                have hpr := hpr.fro hf33 (fun k hk e => by have e' : k = g := e; omega)
                have hpw := hpw.fro hf33 (fun k hk e => by have e' : k = g := e; omega)
                have hF := hF.trans hf33
                refine WL_nil ?_
                refine W_seq ?_
                refine W_region ?_
                refine WL_val rfl rfl rfl (st_mv (v := .int _ _) rfl) ?_
                refine WL_val rfl rfl rfl (st_mv (v := .string _) rfl) ?_
                refine WL_val rfl rfl rfl (st_lens Tryd.underlying9 rfl) ?_
                refine WL_val rfl rfl rfl (st_lss rfl rfl) ?_
                refine WL_val rfl rfl rfl (st_mv (v := .bool _) rfl) ?_
                refine WL_split 116 rfl (fun h116 => ?_) (fun h116 => ?_)
                · have g116 := of_decide_eq_true h116
                  refine WL_valg rfl rfl rfl (congrArg Value.bool h116) rfl rfl (st_mv (v := .string _) rfl) ?_
                  refine WL_valg rfl rfl rfl (congrArg Value.bool h116) rfl rfl (st_mv (v := .int _ _) rfl) ?_
                  refine WL_valg rfl rfl rfl (congrArg Value.bool h116) rfl rfl (st_index (s := text) (i := k) Tryd.underlying9 rfl rfl (by omega)) ?_
                  refine WL_valg rfl rfl rfl (congrArg Value.bool h116) rfl rfl (st_eql rfl rfl) ?_
                  refine WL_val rfl rfl rfl (st_pk_t (v := .bool _) (congrArg Value.bool h116) rfl) ?_
                  refine WL_val rfl rfl rfl (st_mv (v := .bool _) rfl) ?_
                  refine WL_split 122 rfl (fun h122 => ?_) (fun h122 => ?_)
                  · have g122 := of_decide_eq_true h122
                    refine WL_valg rfl rfl rfl (congrArg Value.bool h122) rfl rfl (st_fieldAddr (off := 0) Tryd.underlying33 rfl rfl ti3 rfl) ?_
                    refine WL_valg rfl rfl rfl (congrArg Value.bool h122) rfl rfl (st_load ⟨_, Tryd.underlying3, rfl⟩ rfl (hb3.cell 0 rfl)) ?_
                    refine WL_valg rfl rfl rfl (congrArg Value.bool h122) rfl rfl (st_eql rfl rfl) ?_
                    refine WL_val rfl rfl rfl (st_pk_t (v := .bool _) (congrArg Value.bool h122) rfl) ?_
                    refine WL_nil ?_
                    refine W_cond rfl (fun h126 => ?_) (fun h126 => ?_)
                    · have g126 := of_decide_eq_true h126
                      refine W_region ?_
                      refine WL_val rfl rfl rfl (st_as (v := (.bool false)) rfl) ?_
                      refine WL_nil ?_
                      refine W_region ?_
                      refine WL_val rfl rfl rfl (st_add rfl rfl (by omega) (by omega)) ?_
                      refine WL_val rfl rfl rfl (st_mv (v := .int _ _) rfl) ?_
                      refine WL_nil ?_
                      refine rnd_end ?_ (m - 1) ?_ ?_
                      · repeat (first | exact agree_in rfl rfl (agree_refl _ _) | exact agree_refl _ _ | refine agree_in rfl rfl ?_ | refine agree_upd rfl ?_)
                      · omega
                      · exact ⟨k + 1, _, _, by omega, vec2 rfl rfl, hS.step (by omega) (by omega) (by rw [h105]; rfl) (fun hks => by have e : starB p.kind text[k] = false := (by unfold starB; rw [show text[k] = 47 from (byte_eq _ 47 (by decide)).1 (by first | exact g122 | exact of_decide_eq_true h122), g126]; rfl); rw [e, Bool.and_false]), hto, hF⟩
                    · have g126 := of_decide_eq_false h126
                      refine W_skip ?_
                      refine W_region ?_
                      refine WL_val rfl rfl rfl (st_add rfl rfl (by omega) (by omega)) ?_
                      refine WL_val rfl rfl rfl (st_mv (v := .int _ _) rfl) ?_
                      refine WL_nil ?_
                      refine rnd_end ?_ (m - 1) ?_ ?_
                      · repeat (first | exact agree_in rfl rfl (agree_refl _ _) | exact agree_refl _ _ | refine agree_in rfl rfl ?_ | refine agree_upd rfl ?_)
                      · omega
                      · exact ⟨k + 1, _, _, by omega, vec2 rfl rfl, hS.step (by omega) (by omega) (by rw [h105]; rfl) (fun hks => by have e : starB p.kind text[k] = true := (by unfold starB; rw [decide_eq_true (show p.kind = 4 by omega)]; exact Bool.or_true _); rw [e, Bool.and_true]), hto, hF⟩
                  · have g122 := of_decide_eq_false h122
                    refine WL_pass rfl rfl rfl (congrArg Value.bool h122) rfl rfl ?_
                    refine WL_pass rfl rfl rfl (congrArg Value.bool h122) rfl rfl ?_
                    refine WL_pass rfl rfl rfl (congrArg Value.bool h122) rfl rfl ?_
                    refine WL_val rfl rfl rfl (st_pk_f (v := (.bool false)) (congrArg Value.bool h122) rfl) ?_
                    refine WL_nil ?_
                    refine W_no rfl ?_
                    refine W_skip ?_
                    refine W_region ?_
                    refine WL_val rfl rfl rfl (st_add rfl rfl (by omega) (by omega)) ?_
                    refine WL_val rfl rfl rfl (st_mv (v := .int _ _) rfl) ?_
                    refine WL_nil ?_
                    refine rnd_end ?_ (m - 1) ?_ ?_
                    · repeat (first | exact agree_in rfl rfl (agree_refl _ _) | exact agree_refl _ _ | refine agree_in rfl rfl ?_ | refine agree_upd rfl ?_)
                    · omega
                    · exact ⟨k + 1, _, _, by omega, vec2 rfl rfl, hS.step (by omega) (by omega) (by rw [h105]; rfl) (fun hks => by have e : starB p.kind text[k] = true := (by unfold starB; rw [decide_eq_true (show text[k] ≠ 47 from fun e => g122 ((byte_eq _ 47 (by decide)).2 e))]; rfl); rw [e, Bool.and_true]), hto, hF⟩
                · have g116 := of_decide_eq_false h116
                  refine WL_pass rfl rfl rfl (congrArg Value.bool h116) rfl rfl ?_
                  refine WL_pass rfl rfl rfl (congrArg Value.bool h116) rfl rfl ?_
                  refine WL_pass rfl rfl rfl (congrArg Value.bool h116) rfl rfl ?_
                  refine WL_pass rfl rfl rfl (congrArg Value.bool h116) rfl rfl ?_
                  refine WL_val rfl rfl rfl (st_pk_f (v := (.bool false)) (congrArg Value.bool h116) rfl) ?_
                  refine WL_val rfl rfl rfl (st_mv (v := .bool _) rfl) ?_
                  refine WL_pass rfl rfl rfl rfl rfl rfl ?_
                  refine WL_pass rfl rfl rfl rfl rfl rfl ?_
                  refine WL_pass rfl rfl rfl rfl rfl rfl ?_
                  refine WL_val rfl rfl rfl (st_pk_f (v := (.bool false)) rfl rfl) ?_
                  refine WL_nil ?_
                  refine W_no rfl ?_
                  refine W_skip ?_
                  refine W_region ?_
                  refine WL_val rfl rfl rfl (st_add rfl rfl (by omega) (by omega)) ?_
                  refine WL_val rfl rfl rfl (st_mv (v := .int _ _) rfl) ?_
                  refine WL_nil ?_
                  refine rnd_end ?_ (m - 1) ?_ ?_
                  · repeat (first | exact agree_in rfl rfl (agree_refl _ _) | exact agree_refl _ _ | refine agree_in rfl rfl ?_ | refine agree_upd rfl ?_)
                  · omega
                  · exact ⟨k + 1, _, _, by omega, vec2 rfl rfl, hS.step (by omega) (by omega) (by rw [h105]; rfl) (fun hks => by omega), hto, hF⟩
              · have g105 := h105
                refine WL_valg rfl rfl rfl (congrArg Value.bool h105) rfl rfl (st_mv (v := .bool _) rfl) ?_
                refine WL_val rfl rfl rfl (st_pk_f (v := .bool _) (congrArg Value.bool h105) rfl) ?_
                refine WL_val rfl rfl rfl (st_as (v := .bool _) rfl) ?_
                refine WL_nil ?_
                refine W_seq ?_
                refine W_region ?_
                refine WL_val rfl rfl rfl (st_mv (v := .slice _ _ _) rfl) ?_
                refine WL_val rfl rfl rfl (st_mv (v := .int _ _) rfl) ?_
                refine WL_val rfl rfl rfl (st_mv (v := .bool _) rfl) ?_
                refine WL_val rfl rfl rfl (st_indexAddr (o := 0) Tryd.underlying82 ti4 rfl rfl rfl (by omega)) ?_
                refine WL_su (su_store ti4 rfl hto (by rw [List.length_map]; omega) rfl rfl) rfl rfl ?_
                rintro w34 ⟨hnb, hf35⟩
                have hto : Blk w34 g 4 ((to.set (k) (fr.getD k false)).map Value.bool) := by rw [← mapb_set]; exact hnb
                clear hnb
                have hx0 : Ext w w34 := hx0.trans' hf35 (fun _ _ f => f) (fun k hk e => by have e' : k = g := e; omega)
                have hfr := hfr.fro hf35 (fun e => by have e' : gf = g := e; omega)
                have hb3 := hb3.fro hf35 (fun e => by have e' : b1 = g := e; omega)
                have hpr := hpr.fro hf35 (fun k hk e => by have e' : k = g := e; omega)
                have hpw := hpw.fro hf35 (fun k hk e => by have e' : k = g := e; omega)
                have hF := hF.trans hf35
                refine WL_nil ?_
                refine W_seq ?_
                refine W_region ?_
                refine WL_val rfl rfl rfl (st_mv (v := .int _ _) rfl) ?_
                refine WL_val rfl rfl rfl (st_mv (v := .string _) rfl) ?_
                refine WL_val rfl rfl rfl (st_lens Tryd.underlying9 rfl) ?_
                refine WL_val rfl rfl rfl (st_lss rfl rfl) ?_
                refine WL_val rfl rfl rfl (st_mv (v := .bool _) rfl) ?_
                refine WL_split 116 rfl (fun h116 => ?_) (fun h116 => ?_)
                · have g116 := of_decide_eq_true h116
                  refine WL_valg rfl rfl rfl (congrArg Value.bool h116) rfl rfl (st_mv (v := .string _) rfl) ?_
                  refine WL_valg rfl rfl rfl (congrArg Value.bool h116) rfl rfl (st_mv (v := .int _ _) rfl) ?_
                  refine WL_valg rfl rfl rfl (congrArg Value.bool h116) rfl rfl (st_index (s := text) (i := k) Tryd.underlying9 rfl rfl (by omega)) ?_
                  refine WL_valg rfl rfl rfl (congrArg Value.bool h116) rfl rfl (st_eql rfl rfl) ?_
                  refine WL_val rfl rfl rfl (st_pk_t (v := .bool _) (congrArg Value.bool h116) rfl) ?_
                  refine WL_val rfl rfl rfl (st_mv (v := .bool _) rfl) ?_
                  refine WL_split 122 rfl (fun h122 => ?_) (fun h122 => ?_)
                  · have g122 := of_decide_eq_true h122
                    refine WL_valg rfl rfl rfl (congrArg Value.bool h122) rfl rfl (st_fieldAddr (off := 0) Tryd.underlying33 rfl rfl ti3 rfl) ?_
                    refine WL_valg rfl rfl rfl (congrArg Value.bool h122) rfl rfl (st_load ⟨_, Tryd.underlying3, rfl⟩ rfl (hb3.cell 0 rfl)) ?_
                    refine WL_valg rfl rfl rfl (congrArg Value.bool h122) rfl rfl (st_eql rfl rfl) ?_
                    refine WL_val rfl rfl rfl (st_pk_t (v := .bool _) (congrArg Value.bool h122) rfl) ?_
                    refine WL_nil ?_
                    refine W_cond rfl (fun h126 => ?_) (fun h126 => ?_)
                    · have g126 := of_decide_eq_true h126
                      refine W_region ?_
                      refine WL_val rfl rfl rfl (st_as (v := (.bool false)) rfl) ?_
                      refine WL_nil ?_
                      refine W_region ?_
                      refine WL_val rfl rfl rfl (st_add rfl rfl (by omega) (by omega)) ?_
                      refine WL_val rfl rfl rfl (st_mv (v := .int _ _) rfl) ?_
                      refine WL_nil ?_
                      refine rnd_end ?_ (m - 1) ?_ ?_
                      · repeat (first | exact agree_in rfl rfl (agree_refl _ _) | exact agree_refl _ _ | refine agree_in rfl rfl ?_ | refine agree_upd rfl ?_)
                      · omega
                      · exact ⟨k + 1, _, _, by omega, vec2 rfl rfl, hS.step (by omega) (by omega) (by rw [h105]; rfl) (fun hks => by have e : starB p.kind text[k] = false := (by unfold starB; rw [show text[k] = 47 from (byte_eq _ 47 (by decide)).1 (by first | exact g122 | exact of_decide_eq_true h122), g126]; rfl); rw [e, Bool.and_false]), hto, hF⟩
                    · have g126 := of_decide_eq_false h126
                      refine W_skip ?_
                      refine W_region ?_
                      refine WL_val rfl rfl rfl (st_add rfl rfl (by omega) (by omega)) ?_
                      refine WL_val rfl rfl rfl (st_mv (v := .int _ _) rfl) ?_
                      refine WL_nil ?_
                      refine rnd_end ?_ (m - 1) ?_ ?_
                      · repeat (first | exact agree_in rfl rfl (agree_refl _ _) | exact agree_refl _ _ | refine agree_in rfl rfl ?_ | refine agree_upd rfl ?_)
                      · omega
                      · exact ⟨k + 1, _, _, by omega, vec2 rfl rfl, hS.step (by omega) (by omega) (by rw [h105]; rfl) (fun hks => by have e : starB p.kind text[k] = true := (by unfold starB; rw [decide_eq_true (show p.kind = 4 by omega)]; exact Bool.or_true _); rw [e, Bool.and_true]), hto, hF⟩
                  · have g122 := of_decide_eq_false h122
                    refine WL_pass rfl rfl rfl (congrArg Value.bool h122) rfl rfl ?_
                    refine WL_pass rfl rfl rfl (congrArg Value.bool h122) rfl rfl ?_
                    refine WL_pass rfl rfl rfl (congrArg Value.bool h122) rfl rfl ?_
                    refine WL_val rfl rfl rfl (st_pk_f (v := (.bool false)) (congrArg Value.bool h122) rfl) ?_
                    refine WL_nil ?_
                    refine W_no rfl ?_
                    refine W_skip ?_
                    refine W_region ?_
                    refine WL_val rfl rfl rfl (st_add rfl rfl (by omega) (by omega)) ?_
                    refine WL_val rfl rfl rfl (st_mv (v := .int _ _) rfl) ?_
                    refine WL_nil ?_
                    refine rnd_end ?_ (m - 1) ?_ ?_
                    · repeat (first | exact agree_in rfl rfl (agree_refl _ _) | exact agree_refl _ _ | refine agree_in rfl rfl ?_ | refine agree_upd rfl ?_)
                    · omega
                    · exact ⟨k + 1, _, _, by omega, vec2 rfl rfl, hS.step (by omega) (by omega) (by rw [h105]; rfl) (fun hks => by have e : starB p.kind text[k] = true := (by unfold starB; rw [decide_eq_true (show text[k] ≠ 47 from fun e => g122 ((byte_eq _ 47 (by decide)).2 e))]; rfl); rw [e, Bool.and_true]), hto, hF⟩
                · have g116 := of_decide_eq_false h116
                  refine WL_pass rfl rfl rfl (congrArg Value.bool h116) rfl rfl ?_
                  refine WL_pass rfl rfl rfl (congrArg Value.bool h116) rfl rfl ?_
                  refine WL_pass rfl rfl rfl (congrArg Value.bool h116) rfl rfl ?_
                  refine WL_pass rfl rfl rfl (congrArg Value.bool h116) rfl rfl ?_
                  refine WL_val rfl rfl rfl (st_pk_f (v := (.bool false)) (congrArg Value.bool h116) rfl) ?_
                  refine WL_val rfl rfl rfl (st_mv (v := .bool _) rfl) ?_
                  refine WL_pass rfl rfl rfl rfl rfl rfl ?_
                  refine WL_pass rfl rfl rfl rfl rfl rfl ?_
                  refine WL_pass rfl rfl rfl rfl rfl rfl ?_
                  refine WL_val rfl rfl rfl (st_pk_f (v := (.bool false)) rfl rfl) ?_
                  refine WL_nil ?_
                  refine W_no rfl ?_
                  refine W_skip ?_
                  refine W_region ?_
                  refine WL_val rfl rfl rfl (st_add rfl rfl (by omega) (by omega)) ?_
                  refine WL_val rfl rfl rfl (st_mv (v := .int _ _) rfl) ?_
                  refine WL_nil ?_
                  refine rnd_end ?_ (m - 1) ?_ ?_
                  · repeat (first | exact agree_in rfl rfl (agree_refl _ _) | exact agree_refl _ _ | refine agree_in rfl rfl ?_ | refine agree_upd rfl ?_)
                  · omega
                  · exact ⟨k + 1, _, _, by omega, vec2 rfl rfl, hS.step (by omega) (by omega) (by rw [h105]; rfl) (fun hks => by omega), hto, hF⟩
            · have g100 := of_decide_eq_false h100
              refine W_exit ?_
              refine W_seq ?_
              have hP : Pas (Lp p) text fr to := hS.done (by omega) hk3
              refine W_region ?_
              refine WL_val rfl rfl rfl (st_mv (v := .slice _ _ _) rfl) ?_
              refine WL_val rfl rfl rfl (st_as (v := .slice _ _ _) rfl) ?_
              refine WL_nil ?_
              refine W_ret ?_
              refine qr1 ?_
              exact ⟨_, g, rfl, hto, (by omega), hP, hx0⟩
        · have g94 := of_decide_eq_false h94
          refine W_region ?_
          refine WL_val rfl rfl rfl (st_eql rfl rfl) ?_
          refine WL_val rfl rfl rfl (st_as (v := .bool _) rfl) ?_
          refine WL_nil ?_
          refine W_cond rfl (fun h94 => ?_) (fun h94 => ?_)
          · have g94 := of_decide_eq_true h94
            refine W_seq ?_
            have hk3 : p.kind = 3 ∨ p.kind = 4 := by omega
            refine W_region ?_
            refine WL_val rfl rfl rfl (st_as (v := (.bool false)) rfl) ?_
            refine WL_nil ?_
            refine W_seq ?_
            refine W_region ?_
            refine WL_val rfl rfl rfl (st_mv (v := .slice _ _ _) rfl) ?_
            refine WL_val rfl rfl rfl (st_len Tryd.underlying82 rfl) ?_
            refine WL_val rfl rfl rfl (st_mv (v := (.int .i64 0)) rfl) ?_
            refine WL_nil ?_
            refine W_block ?_
            refine W_loop [12, 99] [12, 13, 14, 99, 100, 101, 102, 103, 104, 105, 106, 107, 108, 109, 110, 111, 112, 113, 114, 115, 116, 117, 118, 119, 120, 121, 122, 123, 124, 125, 126, 127] (fun m vs w1 => ∃ (k : Nat) (to : List Bool) (on : Bool), k + m = fr.length ∧ vs = [.bool on, .int .i64 (k : Int)] ∧ Sta p text fr k to on ∧ Blk w1 g 4 (to.map Value.bool) ∧ Fro (· = g) wm w1) ?_ ?_
            · exact ⟨fr.length, 0, _, _, by omega, rfl, Sta.zero, hto, Fro.refl _ _⟩
            · intro m vs w36 u hI
              obtain ⟨k, to, on, hk, rfl, hS, hto, hF⟩ := hI
              have hx0 : Ext w w36 := hx0.trans' hF (fun _ _ f => f) (fun k hk e => by have e' : k = g := e; omega)
              have hfr := hfr.fro hF (fun e => by have e' : gf = g := e; omega)
              have hb3 := hb3.fro hF (fun e => by have e' : b1 = g := e; omega)
              have hpr := hpr.fro hF (fun k hk e => by have e' : k = g := e; omega)
              have hpw := hpw.fro hF (fun k hk e => by have e' : k = g := e; omega)
              have hlt := hS.1
              refine W_seq ?_
              refine W_region ?_
              refine WL_val rfl rfl rfl (st_lss rfl rfl) ?_
              refine WL_nil ?_
              refine W_seq ?_
              refine W_cond rfl (fun h100 => ?_) (fun h100 => ?_)
              · have g100 := of_decide_eq_true h100
                refine W_skip ?_
                refine W_seq ?_
                refine W_block ?_
                refine W_seq ?_
                refine W_region ?_
                refine WL_val rfl rfl rfl (st_mv (v := .int _ _) rfl) ?_
                refine WL_val rfl rfl rfl (st_indexAddr (o := 0) Tryd.underlying82 ti4 rfl rfl rfl (by omega)) ?_
                refine WL_val rfl rfl rfl (st_load ⟨_, Tryd.underlying4, rfl⟩ rfl (hfr.cell _ (mapb (by omega)))) ?_
                refine WL_val rfl rfl rfl (st_as (v := .int _ _) rfl) ?_
                refine WL_val rfl rfl rfl (st_as (v := .bool _) rfl) ?_
                refine WL_nil ?_
                refine W_seq ?_
                refine W_region ?_
                refine WL_val rfl rfl rfl (st_mv (v := .bool _) rfl) ?_
                refine WL_val rfl rfl rfl (st_mv (v := .bool _) rfl) ?_
                refine WL_split 105 rfl (fun h105 => ?_) (fun h105 => ?_)
                · have g105 := h105
                  refine WL_pass rfl rfl rfl (congrArg Value.bool h105) rfl rfl ?_
                  refine WL_val rfl rfl rfl (st_pk_t (v := (.bool true)) (congrArg Value.bool h105) rfl) ?_
                  refine WL_val rfl rfl rfl (st_as (v := .bool _) rfl) ?_
                  refine WL_nil ?_
                  refine W_seq ?_
                  refine W_region ?_
                  refine WL_val rfl rfl rfl (st_mv (v := .slice _ _ _) rfl) ?_
                  refine WL_val rfl rfl rfl (st_mv (v := .int _ _) rfl) ?_
                  refine WL_val rfl rfl rfl (st_mv (v := .bool _) rfl) ?_
                  refine WL_val rfl rfl rfl (st_indexAddr (o := 0) Tryd.underlying82 ti4 rfl rfl rfl (by omega)) ?_
                  refine WL_su (su_store ti4 rfl hto (by rw [List.length_map]; omega) rfl rfl) rfl rfl ?_
                  rintro w37 ⟨hnb, hf38⟩
                  have hto : Blk w37 g 4 ((to.set (k) true).map Value.bool) := by rw [← mapb_set]; exact hnb
                  clear hnb
                  have hx0 : Ext w w37 := hx0.trans' hf38 (fun _ _ f => f) (fun k hk e => by have e' : k = g := e; omega)
                  have hfr := hfr.fro hf38 (fun e => by have e' : gf = g := e; omega)
                  have hb3 := hb3.fro hf38 (fun e => by have e' : b1 = g := e; omega)
                  have hpr := hpr.fro hf38 (fun k hk e => by have e' : k = g := e; omega)
                  have hpw := hpw.fro hf38 (fun k hk e => by have e' : k = g := e; omega)
                  have hF := hF.trans hf38
                  refine WL_nil ?_
                  refine W_seq ?_
                  refine W_region ?_
                  refine WL_val rfl rfl rfl (st_mv (v := .int _ _) rfl) ?_
                  refine WL_val rfl rfl rfl (st_mv (v := .string _) rfl) ?_
                  refine WL_val rfl rfl rfl (st_lens Tryd.underlying9 rfl) ?_
                  refine WL_val rfl rfl rfl (st_lss rfl rfl) ?_
                  refine WL_val rfl rfl rfl (st_mv (v := .bool _) rfl) ?_
                  refine WL_split 116 rfl (fun h116 => ?_) (fun h116 => ?_)
                  · have g116 := of_decide_eq_true h116
                    refine WL_valg rfl rfl rfl (congrArg Value.bool h116) rfl rfl (st_mv (v := .string _) rfl) ?_
                    refine WL_valg rfl rfl rfl (congrArg Value.bool h116) rfl rfl (st_mv (v := .int _ _) rfl) ?_
                    refine WL_valg rfl rfl rfl (congrArg Value.bool h116) rfl rfl (st_index (s := text) (i := k) Tryd.underlying9 rfl rfl (by omega)) ?_
                    refine WL_valg rfl rfl rfl (congrArg Value.bool h116) rfl rfl (st_eql rfl rfl) ?_
                    refine WL_val rfl rfl rfl (st_pk_t (v := .bool _) (congrArg Value.bool h116) rfl) ?_
                    refine WL_val rfl rfl rfl (st_mv (v := .bool _) rfl) ?_
                    refine WL_split 122 rfl (fun h122 => ?_) (fun h122 => ?_)
                    · have g122 := of_decide_eq_true h122
                      refine WL_valg rfl rfl rfl (congrArg Value.bool h122) rfl rfl (st_fieldAddr (off := 0) Tryd.underlying33 rfl rfl ti3 rfl) ?_
                      refine WL_valg rfl rfl rfl (congrArg Value.bool h122) rfl rfl (st_load ⟨_, Tryd.underlying3, rfl⟩ rfl (hb3.cell 0 rfl)) ?_
                      refine WL_valg rfl rfl rfl (congrArg Value.bool h122) rfl rfl (st_eql rfl rfl) ?_
                      refine WL_val rfl rfl rfl (st_pk_t (v := .bool _) (congrArg Value.bool h122) rfl) ?_
                      refine WL_nil ?_
                      refine W_cond rfl (fun h126 => ?_) (fun h126 => ?_)
                      · have g126 := of_decide_eq_true h126
                        refine W_region ?_
                        refine WL_val rfl rfl rfl (st_as (v := (.bool false)) rfl) ?_
                        refine WL_nil ?_
                        refine W_region ?_
                        refine WL_val rfl rfl rfl (st_add rfl rfl (by omega) (by omega)) ?_
                        refine WL_val rfl rfl rfl (st_mv (v := .int _ _) rfl) ?_
                        refine WL_nil ?_
                        refine rnd_end ?_ (m - 1) ?_ ?_
                        · repeat (first | exact agree_in rfl rfl (agree_refl _ _) | exact agree_refl _ _ | refine agree_in rfl rfl ?_ | refine agree_upd rfl ?_)
                        · omega
                        · exact ⟨k + 1, _, _, by omega, vec2 rfl rfl, hS.step (by omega) (by omega) (by rw [h105]; rfl) (fun hks => by have e : starB p.kind text[k] = false := (by unfold starB; rw [show text[k] = 47 from (byte_eq _ 47 (by decide)).1 (by first | exact g122 | exact of_decide_eq_true h122), g126]; rfl); rw [e, Bool.and_false]), hto, hF⟩
                      · have g126 := of_decide_eq_false h126
                        refine W_skip ?_
                        refine W_region ?_
                        refine WL_val rfl rfl rfl (st_add rfl rfl (by omega) (by omega)) ?_
                        refine WL_val rfl rfl rfl (st_mv (v := .int _ _) rfl) ?_
                        refine WL_nil ?_
                        refine rnd_end ?_ (m - 1) ?_ ?_
                        · repeat (first | exact agree_in rfl rfl (agree_refl _ _) | exact agree_refl _ _ | refine agree_in rfl rfl ?_ | refine agree_upd rfl ?_)
                        · omega
                        · exact ⟨k + 1, _, _, by omega, vec2 rfl rfl, hS.step (by omega) (by omega) (by rw [h105]; rfl) (fun hks => by have e : starB p.kind text[k] = true := (by unfold starB; rw [decide_eq_true (show p.kind = 4 by omega)]; exact Bool.or_true _); rw [e, Bool.and_true]), hto, hF⟩
                    · have g122 := of_decide_eq_false h122
                      refine WL_pass rfl rfl rfl (congrArg Value.bool h122) rfl rfl ?_
                      refine WL_pass rfl rfl rfl (congrArg Value.bool h122) rfl rfl ?_
                      refine WL_pass rfl rfl rfl (congrArg Value.bool h122) rfl rfl ?_
                      refine WL_val rfl rfl rfl (st_pk_f (v := (.bool false)) (congrArg Value.bool h122) rfl) ?_
                      refine WL_nil ?_
                      refine W_no rfl ?_
                      refine W_skip ?_
                      refine W_region ?_
                      refine WL_val rfl rfl rfl (st_add rfl rfl (by omega) (by omega)) ?_
                      refine WL_val rfl rfl rfl (st_mv (v := .int _ _) rfl) ?_
                      refine WL_nil ?_
                      refine rnd_end ?_ (m - 1) ?_ ?_
                      · repeat (first | exact agree_in rfl rfl (agree_refl _ _) | exact agree_refl _ _ | refine agree_in rfl rfl ?_ | refine agree_upd rfl ?_)
                      · omega
                      · exact ⟨k + 1, _, _, by omega, vec2 rfl rfl, hS.step (by omega) (by omega) (by rw [h105]; rfl) (fun hks => by have e : starB p.kind text[k] = true := (by unfold starB; rw [decide_eq_true (show text[k] ≠ 47 from fun e => g122 ((byte_eq _ 47 (by decide)).2 e))]; rfl); rw [e, Bool.and_true]), hto, hF⟩
                  · have g116 := of_decide_eq_false h116
                    refine WL_pass rfl rfl rfl (congrArg Value.bool h116) rfl rfl ?_
                    refine WL_pass rfl rfl rfl (congrArg Value.bool h116) rfl rfl ?_
                    refine WL_pass rfl rfl rfl (congrArg Value.bool h116) rfl rfl ?_
                    refine WL_pass rfl rfl rfl (congrArg Value.bool h116) rfl rfl ?_
                    refine WL_val rfl rfl rfl (st_pk_f (v := (.bool false)) (congrArg Value.bool h116) rfl) ?_
                    refine WL_val rfl rfl rfl (st_mv (v := .bool _) rfl) ?_
                    refine WL_pass rfl rfl rfl rfl rfl rfl ?_
                    refine WL_pass rfl rfl rfl rfl rfl rfl ?_
                    refine WL_pass rfl rfl rfl rfl rfl rfl ?_
                    refine WL_val rfl rfl rfl (st_pk_f (v := (.bool false)) rfl rfl) ?_
                    refine WL_nil ?_
                    refine W_no rfl ?_
                    refine W_skip ?_
                    refine W_region ?_
                    refine WL_val rfl rfl rfl (st_add rfl rfl (by omega) (by omega)) ?_
                    refine WL_val rfl rfl rfl (st_mv (v := .int _ _) rfl) ?_
                    refine WL_nil ?_
                    refine rnd_end ?_ (m - 1) ?_ ?_
                    · repeat (first | exact agree_in rfl rfl (agree_refl _ _) | exact agree_refl _ _ | refine agree_in rfl rfl ?_ | refine agree_upd rfl ?_)
                    · omega
                    · exact ⟨k + 1, _, _, by omega, vec2 rfl rfl, hS.step (by omega) (by omega) (by rw [h105]; rfl) (fun hks => by omega), hto, hF⟩
                · have g105 := h105
                  refine WL_valg rfl rfl rfl (congrArg Value.bool h105) rfl rfl (st_mv (v := .bool _) rfl) ?_
                  refine WL_val rfl rfl rfl (st_pk_f (v := .bool _) (congrArg Value.bool h105) rfl) ?_
                  refine WL_val rfl rfl rfl (st_as (v := .bool _) rfl) ?_
                  refine WL_nil ?_
                  refine W_seq ?_
                  refine W_region ?_
                  refine WL_val rfl rfl rfl (st_mv (v := .slice _ _ _) rfl) ?_
                  refine WL_val rfl rfl rfl (st_mv (v := .int _ _) rfl) ?_
                  refine WL_val rfl rfl rfl (st_mv (v := .bool _) rfl) ?_
                  refine WL_val rfl rfl rfl (st_indexAddr (o := 0) Tryd.underlying82 ti4 rfl rfl rfl (by omega)) ?_
                  refine WL_su (su_store ti4 rfl hto (by rw [List.length_map]; omega) rfl rfl) rfl rfl ?_
                  rintro w39 ⟨hnb, hf40⟩
                  have hto : Blk w39 g 4 ((to.set (k) (fr.getD k false)).map Value.bool) := by rw [← mapb_set]; exact hnb
                  clear hnb
                  have hx0 : Ext w w39 := hx0.trans' hf40 (fun _ _ f => f) (fun k hk e => by have e' : k = g := e; omega)
                  have hfr := hfr.fro hf40 (fun e => by have e' : gf = g := e; omega)
                  have hb3 := hb3.fro hf40 (fun e => by have e' : b1 = g := e; omega)
                  have hpr := hpr.fro hf40 (fun k hk e => by have e' : k = g := e; omega)
                  have hpw := hpw.fro hf40 (fun k hk e => by have e' : k = g := e; omega)
                  have hF := hF.trans hf40
                  refine WL_nil ?_
                  refine W_seq ?_
                  refine W_region ?_
                  refine WL_val rfl rfl rfl (st_mv (v := .int _ _) rfl) ?_
                  refine WL_val rfl rfl rfl (st_mv (v := .string _) rfl) ?_
                  refine WL_val rfl rfl rfl (st_lens Tryd.underlying9 rfl) ?_
                  refine WL_val rfl rfl rfl (st_lss rfl rfl) ?_
                  refine WL_val rfl rfl rfl (st_mv (v := .bool _) rfl) ?_
                  refine WL_split 116 rfl (fun h116 => ?_) (fun h116 => ?_)
                  · have g116 := of_decide_eq_true h116
                    refine WL_valg rfl rfl rfl (congrArg Value.bool h116) rfl rfl (st_mv (v := .string _) rfl) ?_
                    refine WL_valg rfl rfl rfl (congrArg Value.bool h116) rfl rfl (st_mv (v := .int _ _) rfl) ?_
                    refine WL_valg rfl rfl rfl (congrArg Value.bool h116) rfl rfl (st_index (s := text) (i := k) Tryd.underlying9 rfl rfl (by omega)) ?_
                    refine WL_valg rfl rfl rfl (congrArg Value.bool h116) rfl rfl (st_eql rfl rfl) ?_
                    refine WL_val rfl rfl rfl (st_pk_t (v := .bool _) (congrArg Value.bool h116) rfl) ?_
                    refine WL_val rfl rfl rfl (st_mv (v := .bool _) rfl) ?_
                    refine WL_split 122 rfl (fun h122 => ?_) (fun h122 => ?_)
                    · have g122 := of_decide_eq_true h122
                      refine WL_valg rfl rfl rfl (congrArg Value.bool h122) rfl rfl (st_fieldAddr (off := 0) Tryd.underlying33 rfl rfl ti3 rfl) ?_
                      refine WL_valg rfl rfl rfl (congrArg Value.bool h122) rfl rfl (st_load ⟨_, Tryd.underlying3, rfl⟩ rfl (hb3.cell 0 rfl)) ?_
                      refine WL_valg rfl rfl rfl (congrArg Value.bool h122) rfl rfl (st_eql rfl rfl) ?_
                      refine WL_val rfl rfl rfl (st_pk_t (v := .bool _) (congrArg Value.bool h122) rfl) ?_
                      refine WL_nil ?_
                      refine W_cond rfl (fun h126 => ?_) (fun h126 => ?_)
                      · have g126 := of_decide_eq_true h126
                        refine W_region ?_
                        refine WL_val rfl rfl rfl (st_as (v := (.bool false)) rfl) ?_
                        refine WL_nil ?_
                        refine W_region ?_
                        refine WL_val rfl rfl rfl (st_add rfl rfl (by omega) (by omega)) ?_
                        refine WL_val rfl rfl rfl (st_mv (v := .int _ _) rfl) ?_
                        refine WL_nil ?_
                        refine rnd_end ?_ (m - 1) ?_ ?_
                        · repeat (first | exact agree_in rfl rfl (agree_refl _ _) | exact agree_refl _ _ | refine agree_in rfl rfl ?_ | refine agree_upd rfl ?_)
                        · omega
                        · exact ⟨k + 1, _, _, by omega, vec2 rfl rfl, hS.step (by omega) (by omega) (by rw [h105]; rfl) (fun hks => by have e : starB p.kind text[k] = false := (by unfold starB; rw [show text[k] = 47 from (byte_eq _ 47 (by decide)).1 (by first | exact g122 | exact of_decide_eq_true h122), g126]; rfl); rw [e, Bool.and_false]), hto, hF⟩
                      · have g126 := of_decide_eq_false h126
                        refine W_skip ?_
                        refine W_region ?_
                        refine WL_val rfl rfl rfl (st_add rfl rfl (by omega) (by omega)) ?_
                        refine WL_val rfl rfl rfl (st_mv (v := .int _ _) rfl) ?_
                        refine WL_nil ?_
                        refine rnd_end ?_ (m - 1) ?_ ?_
                        · repeat (first | exact agree_in rfl rfl (agree_refl _ _) | exact agree_refl _ _ | refine agree_in rfl rfl ?_ | refine agree_upd rfl ?_)
                        · omega
                        · exact ⟨k + 1, _, _, by omega, vec2 rfl rfl, hS.step (by omega) (by omega) (by rw [h105]; rfl) (fun hks => by have e : starB p.kind text[k] = true := (by unfold starB; rw [decide_eq_true (show p.kind = 4 by omega)]; exact Bool.or_true _); rw [e, Bool.and_true]), hto, hF⟩
                    · have g122 := of_decide_eq_false h122
                      refine WL_pass rfl rfl rfl (congrArg Value.bool h122) rfl rfl ?_
                      refine WL_pass rfl rfl rfl (congrArg Value.bool h122) rfl rfl ?_
                      refine WL_pass rfl rfl rfl (congrArg Value.bool h122) rfl rfl ?_
                      refine WL_val rfl rfl rfl (st_pk_f (v := (.bool false)) (congrArg Value.bool h122) rfl) ?_
                      refine WL_nil ?_
                      refine W_no rfl ?_
                      refine W_skip ?_
                      refine W_region ?_
                      refine WL_val rfl rfl rfl (st_add rfl rfl (by omega) (by omega)) ?_
                      refine WL_val rfl rfl rfl (st_mv (v := .int _ _) rfl) ?_
                      refine WL_nil ?_
                      refine rnd_end ?_ (m - 1) ?_ ?_
                      · repeat (first | exact agree_in rfl rfl (agree_refl _ _) | exact agree_refl _ _ | refine agree_in rfl rfl ?_ | refine agree_upd rfl ?_)
                      · omega
                      · exact ⟨k + 1, _, _, by omega, vec2 rfl rfl, hS.step (by omega) (by omega) (by rw [h105]; rfl) (fun hks => by have e : starB p.kind text[k] = true := (by unfold starB; rw [decide_eq_true (show text[k] ≠ 47 from fun e => g122 ((byte_eq _ 47 (by decide)).2 e))]; rfl); rw [e, Bool.and_true]), hto, hF⟩
                  · have g116 := of_decide_eq_false h116
                    refine WL_pass rfl rfl rfl (congrArg Value.bool h116) rfl rfl ?_
                    refine WL_pass rfl rfl rfl (congrArg Value.bool h116) rfl rfl ?_
                    refine WL_pass rfl rfl rfl (congrArg Value.bool h116) rfl rfl ?_
                    refine WL_pass rfl rfl rfl (congrArg Value.bool h116) rfl rfl ?_
                    refine WL_val rfl rfl rfl (st_pk_f (v := (.bool false)) (congrArg Value.bool h116) rfl) ?_
                    refine WL_val rfl rfl rfl (st_mv (v := .bool _) rfl) ?_
                    refine WL_pass rfl rfl rfl rfl rfl rfl ?_
                    refine WL_pass rfl rfl rfl rfl rfl rfl ?_
                    refine WL_pass rfl rfl rfl rfl rfl rfl ?_
                    refine WL_val rfl rfl rfl (st_pk_f (v := (.bool false)) rfl rfl) ?_
                    refine WL_nil ?_
                    refine W_no rfl ?_
                    refine W_skip ?_
                    refine W_region ?_
                    refine WL_val rfl rfl rfl (st_add rfl rfl (by omega) (by omega)) ?_
                    refine WL_val rfl rfl rfl (st_mv (v := .int _ _) rfl) ?_
                    refine WL_nil ?_
                    refine rnd_end ?_ (m - 1) ?_ ?_
                    · repeat (first | exact agree_in rfl rfl (agree_refl _ _) | exact agree_refl _ _ | refine agree_in rfl rfl ?_ | refine agree_upd rfl ?_)
                    · omega
                    · exact ⟨k + 1, _, _, by omega, vec2 rfl rfl, hS.step (by omega) (by omega) (by rw [h105]; rfl) (fun hks => by omega), hto, hF⟩
              · have g100 := of_decide_eq_false h100
                refine W_exit ?_
                refine W_seq ?_
                have hP : Pas (Lp p) text fr to := hS.done (by omega) hk3
                refine W_region ?_
                refine WL_val rfl rfl rfl (st_mv (v := .slice _ _ _) rfl) ?_
                refine WL_val rfl rfl rfl (st_as (v := .slice _ _ _) rfl) ?_
                refine WL_nil ?_
                refine W_ret ?_
                refine qr1 ?_
                exact ⟨_, g, rfl, hto, (by omega), hP, hx0⟩
          · have g94 := of_decide_eq_false h94
            refine W_seq ?_
            refine W_region ?_
            refine WL_val rfl rfl rfl (st_eql rfl rfl) ?_
            refine WL_val rfl rfl rfl (st_as (v := .bool _) rfl) ?_
            refine WL_nil ?_
            refine W_cond rfl (fun h128 => ?_) (fun h128 => ?_)
            · have g128 := of_decide_eq_true h128
              refine W_seq ?_
              refine W_region ?_
              refine WL_val rfl rfl rfl (st_fieldAddr (off := 4) Tryd.underlying33 rfl rfl ti31 rfl) ?_
              refine WL_val rfl rfl rfl (st_load ⟨_, Tryd.underlying31, rfl⟩ rfl (hb3.cell 4 rfl)) ?_
              refine WL_val rfl rfl rfl (st_len Tryd.underlying31 rfl) ?_
              refine WL_val rfl rfl rfl (st_mv (v := (.int .i64 0)) rfl) ?_
              refine WL_nil ?_
              refine W_block ?_
              refine W_loop [133] [16, 17, 18, 133, 134, 135, 136, 137, 138, 139, 140, 141, 142, 143, 144, 145, 146, 147, 148, 149, 150, 151, 152, 153, 154, 155, 156, 157, 158] (fun m vs w1 => ∃ (jw : Nat) (to : List Bool), jw + m = p.ways.length ∧ vs = [.int .i64 (jw : Int)] ∧ Pas (LW (p.ways.take jw)) text fr to ∧ Blk w1 g 4 (to.map Value.bool) ∧ Fro (· = g) wm w1) ?_ ?_
              · exact ⟨p.ways.length, 0, _, by omega, rfl, Pas.none (fun l => by rw [List.take_zero, LW_nil]; exact id), hto, Fro.refl _ _⟩
              · intro m3 vs w41 u hI
                obtain ⟨jw, to, hjw, rfl, hP, hto, hF⟩ := hI
                have hx0 : Ext w w41 := hx0.trans' hF (fun _ _ f => f) (fun k hk e => by have e' : k = g := e; omega)
                have hfr := hfr.fro hF (fun e => by have e' : gf = g := e; omega)
                have hb3 := hb3.fro hF (fun e => by have e' : b1 = g := e; omega)
                have hpr := hpr.fro hF (fun k hk e => by have e' : k = g := e; omega)
                have hpw := hpw.fro hF (fun k hk e => by have e' : k = g := e; omega)
                have hlt := hP.1
                refine W_seq ?_
                refine W_region ?_
                refine WL_val rfl rfl rfl (st_lss rfl rfl) ?_
                refine WL_nil ?_
                refine W_seq ?_
                refine W_cond rfl (fun h134 => ?_) (fun h134 => ?_)
                · have g134 := of_decide_eq_true h134
                  refine W_skip ?_
                  refine W_seq ?_
                  refine W_block ?_
                  refine W_seq ?_
                  have hj' : jw < p.ways.length := by omega
                  obtain ⟨wb, wo, wv, hwD, hwa, hwc, hwv⟩ := WaysAt.at hpw hj'
                  have hle2 := cntW_drop p.ways jw
                  rw [drop_at hj'] at hle2
                  simp only [cntW] at hle2
                  have hcq : cntP p.ways[jw] < N := by have := p.cnt_eq; omega
                  obtain ⟨va, vcp, rfl, hvl⟩ := hwv.form
                  refine W_region ?_
                  refine WL_val rfl rfl rfl (st_indexAddr Tryd.underlying31 ti22 rfl hwa rfl (by omega)) ?_
                  refine WL_val rfl rfl rfl (st_load ⟨_, Tryd.underlying22, rfl⟩ rfl hwc) ?_
                  refine WL_val rfl rfl rfl (st_as (v := .slice _ _ _) rfl) ?_
                  refine WL_nil ?_
                  refine W_seq ?_
                  refine W_region ?_
                  refine WL_val rfl rfl rfl (st_mv (v := .slice _ _ _) rfl) ?_
                  refine WL_val rfl rfl rfl (st_mv (v := .string _) rfl) ?_
                  refine WL_val rfl rfl rfl (st_mv (v := .slice _ _ _) rfl) ?_
                  refine WL_call rfl rfl rfl (ih _ hcq n text fr gf _ _ (by have := hx0.size; omega) hwv hfr hlf hts) (ent_go rfl) ?_
                  rintro _ w42 ⟨t2, g2, rfl, hb2, hg2, hP2, hx43⟩
                  have hgs := hto.lt
                  have hg2g : g2 ≠ g := by omega
                  have hl2 := hP2.1
                  replace hx0 := hx0.ext hx43
                  replace hfr := hfr.ext hx43
                  replace hto := hto.ext hx43
                  replace hpr := hpr.ext hx43
                  replace hpw := hpw.ext hx43
                  replace hb3 := hb3.ext hx43
                  replace hF := hF.ext hx43
                  refine WL_val rfl rfl rfl (st_len Tryd.underlying82 rfl) ?_
                  refine WL_val rfl rfl rfl (st_mv (v := (.int .i64 0)) rfl) ?_
                  refine WL_nil ?_
                  refine W_block ?_
                  refine W_loop [142] [17, 18, 142, 143, 144, 145, 146, 147, 148, 149, 150, 151, 152, 153, 154, 155, 156, 157] (fun m vs w1 => ∃ (k : Nat) (to' : List Bool), k + m = fr.length ∧ vs = [.int .i64 (k : Int)] ∧ to'.length = fr.length ∧ (∀ j, to'.getD j false = if j < k then (to.getD j false || t2.getD j false) else to.getD j false) ∧ Blk w1 g 4 (to'.map Value.bool) ∧ Fro (· = g) w42 w1) ?_ ?_
                  · exact ⟨fr.length, 0, to, by omega, rfl, hlt, fun j => by rw [if_neg (by omega)], hto, Fro.refl _ _⟩
                  · intro m2 vs w44 u hI
                    obtain ⟨k, to', hk, rfl, hlt', hor, hto, hF2⟩ := hI
                    have hF := hF.trans hF2
                    have hb2 := hb2.fro hF2 hg2g
                    have hx0 : Ext w w44 := hx0.trans' hF2 (fun _ _ f => f) (fun k hk e => by have e' : k = g := e; omega)
                    have hfr := hfr.fro hF2 (fun e => by have e' : gf = g := e; omega)
                    have hb3 := hb3.fro hF2 (fun e => by have e' : b1 = g := e; omega)
                    have hpr := hpr.fro hF2 (fun k hk e => by have e' : k = g := e; omega)
                    have hpw := hpw.fro hF2 (fun k hk e => by have e' : k = g := e; omega)
                    refine W_seq ?_
                    refine W_region ?_
                    refine WL_val rfl rfl rfl (st_lss rfl rfl) ?_
                    refine WL_nil ?_
                    refine W_seq ?_
                    refine W_cond rfl (fun h143 => ?_) (fun h143 => ?_)
                    · have g143 := of_decide_eq_true h143
                      refine W_skip ?_
                      refine W_seq ?_
                      refine W_block ?_
                      refine W_seq ?_
                      refine W_region ?_
                      refine WL_val rfl rfl rfl (st_mv (v := .int _ _) rfl) ?_
                      refine WL_val rfl rfl rfl (st_indexAddr (o := 0) Tryd.underlying82 ti4 rfl rfl rfl (by omega)) ?_
                      refine WL_val rfl rfl rfl (st_load ⟨_, Tryd.underlying4, rfl⟩ rfl (hb2.cell _ (mapb (by omega)))) ?_
                      refine WL_val rfl rfl rfl (st_as (v := .int _ _) rfl) ?_
                      refine WL_val rfl rfl rfl (st_as (v := .bool _) rfl) ?_
                      refine WL_nil ?_
                      refine W_region ?_
                      refine WL_val rfl rfl rfl (st_mv (v := .slice _ _ _) rfl) ?_
                      refine WL_val rfl rfl rfl (st_mv (v := .int _ _) rfl) ?_
                      refine WL_val rfl rfl rfl (st_mv (v := .slice _ _ _) rfl) ?_
                      refine WL_val rfl rfl rfl (st_mv (v := .int _ _) rfl) ?_
                      refine WL_val rfl rfl rfl (st_indexAddr (o := 0) Tryd.underlying82 ti4 rfl rfl rfl (by omega)) ?_
                      refine WL_val rfl rfl rfl (st_load ⟨_, Tryd.underlying4, rfl⟩ rfl (hto.cell _ (mapb (by omega)))) ?_
                      refine WL_val rfl rfl rfl (st_mv (v := .bool _) rfl) ?_
                      refine WL_split 153 rfl (fun h153 => ?_) (fun h153 => ?_)
                      · have g153 := h153
                        refine WL_pass rfl rfl rfl (congrArg Value.bool h153) rfl rfl ?_
                        refine WL_val rfl rfl rfl (st_pk_t (v := (.bool true)) (congrArg Value.bool h153) rfl) ?_
                        refine WL_val rfl rfl rfl (st_indexAddr (o := 0) Tryd.underlying82 ti4 rfl rfl rfl (by omega)) ?_
                        refine WL_su (su_store ti4 rfl hto (by rw [List.length_map]; omega) rfl rfl) rfl rfl ?_
                        rintro w45 ⟨hnb, hf46⟩
                        have hto : Blk w45 g 4 ((to'.set (k) true).map Value.bool) := by rw [← mapb_set]; exact hnb
                        clear hnb
                        have hx0 : Ext w w45 := hx0.trans' hf46 (fun _ _ f => f) (fun k hk e => by have e' : k = g := e; omega)
                        have hfr := hfr.fro hf46 (fun e => by have e' : gf = g := e; omega)
                        have hb3 := hb3.fro hf46 (fun e => by have e' : b1 = g := e; omega)
                        have hpr := hpr.fro hf46 (fun k hk e => by have e' : k = g := e; omega)
                        have hpw := hpw.fro hf46 (fun k hk e => by have e' : k = g := e; omega)
                        have hF := hF.trans hf46
                        have hF2 := hF2.trans hf46
                        have hb2 := hb2.fro hf46 hg2g
                        refine WL_nil ?_
                        refine W_region ?_
                        refine WL_val rfl rfl rfl (st_add rfl rfl (by omega) (by omega)) ?_
                        refine WL_val rfl rfl rfl (st_mv (v := .int _ _) rfl) ?_
                        refine WL_nil ?_
                        refine rnd_end ?_ (m2 - 1) ?_ ?_
                        · repeat (first | exact agree_in rfl rfl (agree_refl _ _) | exact agree_refl _ _ | refine agree_in rfl rfl ?_ | refine agree_upd rfl ?_)
                        · omega
                        · exact ⟨k + 1, _, by omega, vec1 rfl, by simpa using hlt', fun j => by
                            rw [getD_set _ _ _ _ (by omega)]
                            by_cases e : j = k
                            · subst e
                              have h9 := hor j
                              rw [if_neg (by omega)] at h9
                              rw [if_pos rfl, if_pos (by omega), ← h9, h153]; rfl
                            · rw [if_neg e, hor j]
                              by_cases e2 : j < k
                              · rw [if_pos e2, if_pos (by omega)]
                              · rw [if_neg e2, if_neg (by omega)], hto, hF2⟩
                      · have g153 := h153
                        refine WL_valg rfl rfl rfl (congrArg Value.bool h153) rfl rfl (st_mv (v := .bool _) rfl) ?_
                        refine WL_val rfl rfl rfl (st_pk_f (v := .bool _) (congrArg Value.bool h153) rfl) ?_
                        refine WL_val rfl rfl rfl (st_indexAddr (o := 0) Tryd.underlying82 ti4 rfl rfl rfl (by omega)) ?_
                        refine WL_su (su_store ti4 rfl hto (by rw [List.length_map]; omega) rfl rfl) rfl rfl ?_
                        rintro w47 ⟨hnb, hf48⟩
                        have hto : Blk w47 g 4 ((to'.set (k) (t2.getD k false)).map Value.bool) := by rw [← mapb_set]; exact hnb
                        clear hnb
                        have hx0 : Ext w w47 := hx0.trans' hf48 (fun _ _ f => f) (fun k hk e => by have e' : k = g := e; omega)
                        have hfr := hfr.fro hf48 (fun e => by have e' : gf = g := e; omega)
                        have hb3 := hb3.fro hf48 (fun e => by have e' : b1 = g := e; omega)
                        have hpr := hpr.fro hf48 (fun k hk e => by have e' : k = g := e; omega)
                        have hpw := hpw.fro hf48 (fun k hk e => by have e' : k = g := e; omega)
                        have hF := hF.trans hf48
                        have hF2 := hF2.trans hf48
                        have hb2 := hb2.fro hf48 hg2g
                        refine WL_nil ?_
                        refine W_region ?_
                        refine WL_val rfl rfl rfl (st_add rfl rfl (by omega) (by omega)) ?_
                        refine WL_val rfl rfl rfl (st_mv (v := .int _ _) rfl) ?_
                        refine WL_nil ?_
                        refine rnd_end ?_ (m2 - 1) ?_ ?_
                        · repeat (first | exact agree_in rfl rfl (agree_refl _ _) | exact agree_refl _ _ | refine agree_in rfl rfl ?_ | refine agree_upd rfl ?_)
                        · omega
                        · exact ⟨k + 1, _, by omega, vec1 rfl, by simpa using hlt', fun j => by
                            rw [getD_set _ _ _ _ (by omega)]
                            by_cases e : j = k
                            · subst e
                              have h9 := hor j
                              rw [if_neg (by omega)] at h9
                              rw [if_pos rfl, if_pos (by omega), ← h9, h153]; rfl
                            · rw [if_neg e, hor j]
                              by_cases e2 : j < k
                              · rw [if_pos e2, if_pos (by omega)]
                              · rw [if_neg e2, if_neg (by omega)], hto, hF2⟩
                    · have g143 := of_decide_eq_false h143
                      refine W_exit ?_
                      refine W_region ?_
                      refine WL_val rfl rfl rfl (st_add rfl rfl (by omega) (by omega)) ?_
                      refine WL_val rfl rfl rfl (st_mv (v := .int _ _) rfl) ?_
                      refine WL_nil ?_
                      refine rnd_end ?_ (m3 - 1) ?_ ?_
                      · repeat (first | exact agree_in rfl rfl (agree_refl _ _) | exact agree_refl _ _ | refine agree_in rfl rfl ?_ | refine agree_upd rfl ?_)
                      · omega
                      · exact ⟨jw + 1, to', by omega, vec1 rfl, (hP.or hP2 hlt' (fun j hj => by rw [hor j, if_pos (by omega)])).iff (fun l => LW_take p.ways jw hj' l), hto, hF⟩
                · have g134 := of_decide_eq_false h134
                  refine W_exit ?_
                  refine W_seq ?_
                  have hP : Pas (Lp p) text fr to := by rw [List.take_of_length_le (by omega)] at hP; exact hP.iff (fun l => (Lp_ways g128 l).symm)
                  refine W_region ?_
                  refine WL_val rfl rfl rfl (st_mv (v := .slice _ _ _) rfl) ?_
                  refine WL_val rfl rfl rfl (st_as (v := .slice _ _ _) rfl) ?_
                  refine WL_nil ?_
                  refine W_ret ?_
                  refine qr1 ?_
                  exact ⟨_, g, rfl, hto, (by omega), hP, hx0⟩
            · have g128 := of_decide_eq_false h128
              refine W_skip ?_
              refine W_seq ?_
              have hP : Pas (Lp p) text fr (List.replicate fr.length false) := Pas.none (fun l => Lp_none (by omega) l)
              refine W_region ?_
              refine WL_val rfl rfl rfl (st_mv (v := .slice _ _ _) rfl) ?_
              refine WL_val rfl rfl rfl (st_as (v := .slice _ _ _) rfl) ?_
              refine WL_nil ?_
              refine W_ret ?_
              refine qr1 ?_
              exact ⟨_, g, rfl, hto, (by omega), hP, hx0⟩
end Go.Proofs.YtndfhicdabdafaaDoor
