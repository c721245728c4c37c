/- Walk of some. -/
import Derived.Test.YtndfhicdabdafaaDoorC17
namespace Go.Proofs.YtndfhicdabdafaaDoor
open Go Go.RowKit

theorem TakesAt.runs {w : World} {n lim : Nat} {fv : Value} {f : UInt8 → Bool} (h : TakesAt w n lim fv f) : ∃ k b, fv = .func (.func k) #[] #[.pointer (some ⟨b, 0, none⟩)] ∧ ∀ v, Ext w v → ∀ c : UInt8, Fun Tryd.prog k [.int .u8 (c.toNat : Int), .pointer (some ⟨b, 0, none⟩)] v (fun r w' => r = .bool (f c) ∧ Ext v w') := by
  rcases h with ⟨b, c0, _, rfl, hb, rfl⟩ | ⟨b, p, ra, rc, wa, wc, _, rfl, hb, hpr, rfl⟩ | ⟨b, p, ra, rc, wa, wc, _, rfl, hb, rfl⟩
  · exact ⟨_, b, rfl, fun v hx c => take1_ok b c c0 v (hb.ext hx)⟩
  · exact ⟨_, b, rfl, fun v hx c => take2_ok b n c p ra wa rc wc v (hb.ext hx) (hpr.ext hx)⟩
  · exact ⟨_, b, rfl, fun v hx c => take3_ok b c p ra wa rc wc v (hb.ext hx)⟩
theorem Ext.size' {w w' : World} (h : Ext w w') : w.heap.size ≤ w'.heap.size := h.size
theorem st_cv {P : Program} {e : Env} {w : World} {dst : Option Tmp} {ty : TypeId} {pos : String} {aft : Array Edge} {g : Option (Nat × Bool)} {x : Operand} {ts td : TypeId} {b : Nat} (hs : ∃ d, P.underlying ts = some d) (hu : P.underlying td = some (.int .u8)) (hb : b < 256) (hx : ev e x = .int .i64 (b : Int)) :
    St P ⟨dst, .convert ts td x, ty, pos, aft, g⟩ e w (.int .u8 ((b.toUInt8).toNat : Int)) w := by
  have h := st_convi (w := w) (dst := dst) (ty := ty) (pos := pos) (aft := aft) (g := g) hs hu hx
  rw [u8_wrap hb] at h
  exact h
set_option maxHeartbeats 2000000 in
theorem some_ok (n base nb m en : Nat) (N : NetL) (ks : List Nat) (w : World) (hN : Net w n base nb N) (hS : SetAt w m mkI ks) (hv : Val N) (hlt : ∀ q ∈ ks, q < N.length) (hNl : N.length ≤ 500000000) (hfew : Few 0 N) :
    Fun Tryd.prog 34 [.pointer (some ⟨nb, 0, none⟩), .map (some m), .int .i64 (en : Int)] w (fun r w' => ∃ b, r = .bool b ∧ (b = true ↔ Vis N ks (en, 3)) ∧ Ext w w') := by
  have hkl : ks.length ≤ N.length := by
    have := nodup_len (U := List.range N.length) hS.nodup (fun a h => range_mem (hlt a h))
    rw [List.length_range] at this
    omega
  have hml := hS.lt
  refine fun1 Tryd.func34 rfl (by kernel_rfl) rfl rfl rfl ?_
  refine W_seq ?_
  refine W_region ?_
  refine WL_val rfl rfl rfl (st_as (v := (.bool false)) rfl) ?_
  refine WL_nil ?_
  refine W_seq ?_
  refine W_region ?_
  refine WL_ef (ef_makeMap mkP) rfl rfl rfl ?_
  rintro _ wq2 ⟨ms, rfl, hms, hSm, hx⟩
  refine WL_ef (ef_alloc ti91) rfl rfl rfl ?_
  rintro _ w2 ⟨b1, rfl, hl7, hb7, hx3⟩
  refine WL_su (su_store ti91 rfl hb7 (Nat.le_of_ble_eq_true rfl) rfl rfl) rfl rfl ?_
  rintro w4 ⟨hnb, hf5⟩
  have hx6 : Ext wq2 w4 := hx3.trans_new hf5 (fun _ h => by subst h; exact hl7)
  clear hb7
  have hb7 : Blk _ _ _ [_] := hnb
  clear hnb
  replace hx := hx.ext hx6
  replace hSm := hSm.ext hx6
  refine WL_nil ?_
  refine W_seq ?_
  refine W_region ?_
  refine WL_ef (ef_alloc ti92) rfl rfl rfl ?_
  rintro _ w8x ⟨b8, rfl, hl8, hB8, hx8⟩
  have hmsl := hSm.lt
  have hb7l := hb7.lt
  have hb7m := hb7.ne_set hSm
  replace hx := hx.ext hx8
  have hV : Vis8 w8x b1 b8 ms w.heap.size [b1] [] [] := by
    refine ⟨.slice none 0 0, 0, hb7.ext hx8, hSm.ext hx8, hB8, Own.nil _ _ _ _, .inl rfl, hms, by have := hx.size; omega, ?_, ?_, by omega⟩
    · simp; exact fun e => hb7m e.symm
    · simp; omega
  refine WL_nil ?_
  refine W_seq ?_
  refine W_region ?_
  refine WL_val rfl rfl rfl (st_makeFunc (vf := []) (vc := [.pointer _, .pointer _]) rfl rfl) ?_
  refine WL_val rfl rfl rfl (st_as (v := .func _ _ _) rfl) ?_
  refine WL_nil ?_
  refine W_seq ?_
  refine W_seq ?_
  refine W_region ?_
  refine WL_val rfl rfl rfl (st_mv (v := .map _) rfl) ?_
  refine WL_ef (ef_rangeM Tryd.underlying67 rfl (hS.ext hx)) rfl rfl rfl ?_
  rintro _ w9x ⟨r, rfl, hrl, hR, hx9⟩
  have hrs : w.heap.size ≤ r := by have := hx.size; omega
  have hb1L : ¬ b1 = r := by have := hV.lt; omega
  have hV := (hV.add hx9 hrl)
  replace hx := hx.ext hx9
  refine WL_nil ?_
  refine W_block ?_
  refine W_loop [] [10, 21, 22, 23, 24, 25, 26, 27, 28] (fun m' vs w1 => ∃ (done : List Nat) (c : Nat) (se td : List (Nat × Nat)), c = m' ∧ vs = [] ∧ RngAt w1 r m mkI ks done c ∧ Vis8 w1 b1 b8 ms w.heap.size [r, b1] se td ∧ Sea0 N ks done se td ∧ Ext w w1 ∧ td.length + c ≤ ks.length) ?_ ?_
  · exact ⟨ks.length, [], _, [], [], rfl, rfl, hR, hV, ⟨fun p => by simp, fun p => Iff.rfl⟩, hx, by simp⟩
  · intro m' vs w7 u hI
    obtain ⟨done, c, se, td, rfl, rfl, hR, hV, hS0, hx, hcl⟩ := hI
    refine W_seq ?_
    refine W_region ?_
    rcases (hR.next keyS).symm with ⟨a, c9, w3n, ha, hna, hc9, hrun, hR3, hF3, hsz3, hent⟩ | ⟨hall, hrun⟩
    · refine WL_val rfl rfl rfl (st_nextM rfl hrun) ?_
      replace hV := hV.fro hF3 (fun k e => by have e' : k = r := e; subst e'; simp) hb1L
      replace hx := Fro.trans_new hx hF3 (fun _ e => by subst e; omega)
      refine WL_val rfl rfl rfl (st_extract rfl rfl) ?_
      refine WL_nil ?_
      refine W_seq ?_
      refine W_yes rfl ?_
      refine W_skip ?_
      refine W_block ?_
      refine W_seq ?_
      refine W_region ?_
      refine WL_val rfl rfl rfl (st_entryM rfl hent) ?_
      replace hR := hR3
      have hrl9 := hR.lt
      refine WL_val rfl rfl rfl (st_extract rfl rfl) ?_
      refine WL_val rfl rfl rfl (st_as (v := .int _ _) rfl) ?_
      refine WL_nil ?_
      refine W_region ?_
      refine WL_val rfl rfl rfl (st_mv (v := .func _ _ _) rfl) ?_
      refine WL_val rfl rfl rfl (st_mv (v := .int _ _) rfl) ?_
      refine WL_val rfl rfl rfl (st_build (pl := [(0, 1), (1, 1)]) (cs := [.int .i64 (a : Int), .int .i64 0]) ti94 Tryd.underlying94 (fun _ => by kernel_rfl) rfl) ?_
      refine WL_call rfl rfl rfl (visit_ok b1 b8 ms w.heap.size [r, b1] se td (a, 0) _ hV (by have := Ext.size' hx; have := hV.lt; intro k hk; simp at hk; omega) (Ext.size' hx) (by omega)) (ent_val rfl rfl) ?_
      rintro _ w8 ⟨rfl, se', td', hAdd, hV2, hx9⟩
      replace hx := Fro.trans_new hx hx9 (fun _ e => e.1)
      have hV := hV2; clear hV2
      replace hR := hR.fro hx9 (fun e => e.2 (by simp)) (fun e => by have := e.1; omega)
      refine WL_nil ?_
      refine Blo_n ?_
      refine rnd_end ?_ c9 ?_ ?_
      · repeat (first | exact agree_in rfl rfl (agree_refl _ _) | exact agree_refl _ _ | refine agree_in rfl rfl ?_ | refine agree_upd rfl ?_)
      · omega
      · exact ⟨a :: done, c9, se', td', rfl, rfl, hR, hV, hAdd.sea0 hS0, hx, by have := hAdd.len; omega⟩
    · refine WL_val rfl rfl rfl (st_nextM rfl hrun) ?_
      refine WL_val rfl rfl rfl (st_extract rfl rfl) ?_
      refine WL_nil ?_
      refine W_seq ?_
      refine W_no rfl ?_
      refine W_exit ?_
      refine W_seq ?_
      refine W_block ?_
      refine W_loop [] [6, 11, 13, 14, 15, 16, 29, 30, 31, 32, 33, 34, 35, 36, 37, 38, 39, 40, 41, 42, 43, 44, 45, 46, 47, 48, 49, 50, 51, 52, 53, 54, 55, 56, 57, 58, 59, 60, 61, 62, 63, 64, 65, 66, 67, 68, 69, 70, 71, 72, 73, 74, 75, 76, 77, 78, 79, 80, 81, 82, 83, 84, 85, 86, 87, 88, 89, 90, 91, 92, 93, 94, 95, 96, 97, 98, 99] (fun m' vs w1 => ∃ (se td : List (Nat × Nat)), out (places N.length) se + td.length = m' ∧ vs = [] ∧ Vis8 w1 b1 b8 ms w.heap.size [b1] se td ∧ Sea N ks en se td ∧ Ext w w1 ∧ m' ≤ N.length * 8) ?_ ?_
      · have hol := out_le (places N.length) se
        rw [places_len] at hol
        exact ⟨_, se, td, rfl, rfl, hV.sub (fun k hk => List.mem_cons_of_mem _ hk), hS0.sea (fun s => ⟨fun h => hR.sub h, fun h => hall s h⟩) hlt, hx, by omega⟩
      · intro m8 vs w10 u hI
        obtain ⟨se, td, hm8, rfl, hV, hSe, hx, hM⟩ := hI
        obtain ⟨v, g, hB7, hSm, hB8, hT, hg, hms1, hb81, hmsL, hb8L, h78⟩ := id hV
        obtain ⟨a0, cap0, rfl, hp0⟩ := hT.form
        have hsz8 := hx.size
        have hm8b : ms ≠ b8 := fun e => hB8.ne_set hSm e.symm
        obtain ⟨l7, l8, lm⟩ := hV.lt
        refine W_seq ?_
        refine W_seq ?_
        refine W_region ?_
        refine WL_val rfl rfl rfl (st_load ⟨_, Tryd.underlying92, rfl⟩ rfl (hB8.cell 0 rfl)) ?_
        refine WL_val rfl rfl rfl (st_len Tryd.underlying92 rfl) ?_
        refine WL_val rfl rfl rfl (st_gtr rfl rfl) ?_
        refine WL_nil ?_
        refine W_cond rfl (fun h31 => ?_) (fun h31 => ?_)
        · have g31 := of_decide_eq_true h31
          refine W_skip ?_
          refine W_block ?_
          refine W_seq ?_
          have hpos : 0 < td.length := by omega
          obtain ⟨tdr, p, rfl⟩ : ∃ tdr p, td = tdr ++ [p] := by
            rcases List.eq_nil_or_concat td with h | ⟨tdr, s, h⟩
            · rw [h] at hpos; exact absurd hpos (by decide)
            · exact ⟨tdr, s, by rw [h, List.concat_eq_append]⟩
          have hlen : (tdr ++ [p]).length = tdr.length + 1 := by rw [List.length_append, List.length_singleton]
          obtain ⟨rfl, _, hcs⟩ := hT.cells hpos
          obtain ⟨hg1, hg2, hg3, hg4, hg5, hg6⟩ : _ := hg.resolve_left (fun h => by cases h)
          have hcell := hcs.part (tdr.length * 2) (ds := pcs p) (fun j v hv => by
            rw [flatP_add, List.getElem?_append_right (by rw [flatP_len]; omega), flatP_len, show tdr.length * 2 + j - tdr.length * 2 = j by omega]
            exact hv)
          obtain ⟨hcap, hTc⟩ := hT.cut (k := tdr.length) (by omega)
          rw [flatP_add, List.take_append_of_le_length (by rw [flatP_len]; omega), List.take_of_length_le (by rw [flatP_len]; omega)] at hTc
          refine W_region ?_
          refine WL_val rfl rfl rfl (st_load ⟨_, Tryd.underlying92, rfl⟩ rfl (hB8.cell 0 rfl)) ?_
          refine WL_val rfl rfl rfl (st_load ⟨_, Tryd.underlying92, rfl⟩ rfl (hB8.cell 0 rfl)) ?_
          refine WL_val rfl rfl rfl (st_len Tryd.underlying92 rfl) ?_
          refine WL_val rfl rfl rfl (st_sub rfl rfl (by omega) (by omega)) ?_
          refine WL_val rfl rfl rfl (st_indexAddr (o := 0) (i := tdr.length) Tryd.underlying92 ti94 rfl rfl (by exact vint (by omega)) (by omega)) ?_
          refine WL_val rfl rfl rfl (st_loada ⟨_, Tryd.underlying94, rfl⟩ ti94 rfl hcell rfl) ?_
          refine WL_ef (ef_alloc ti94) rfl rfl rfl ?_
          rintro _ w12 ⟨b11, rfl, hl11, hb11, hx13⟩
          refine WL_su (su_storea ti94 rfl hb11 rfl rfl (Nat.le_of_ble_eq_true rfl) rfl) rfl rfl ?_
          rintro w14 ⟨hnb, hf15⟩
          have hx16 : Ext w10 w14 := hx13.trans_new hf15 (fun _ h => by subst h; exact hl11)
          clear hb11
          have hb11 : Blk _ _ _ [_, _] := hnb
          clear hnb
          replace hx := hx.ext hx16
          replace hB7 := hB7.ext hx16
          replace hSm := hSm.ext hx16
          replace hB8 := hB8.ext hx16
          replace hTc := hTc.ext hx16
          refine WL_nil ?_
          refine W_seq ?_
          refine W_region ?_
          refine WL_val rfl rfl rfl (st_load ⟨_, Tryd.underlying92, rfl⟩ rfl (hB8.cell 0 rfl)) ?_
          refine WL_val rfl rfl rfl (st_load ⟨_, Tryd.underlying92, rfl⟩ rfl (hB8.cell 0 rfl)) ?_
          refine WL_val rfl rfl rfl (st_len Tryd.underlying92 rfl) ?_
          refine WL_val rfl rfl rfl (st_sub rfl rfl (by omega) (by omega)) ?_
          refine WL_val rfl rfl rfl (st_slice0 (b := tdr.length) Tryd.underlying92 ti94 rfl (fun _ h => by cases h; rfl) (.inr (congrArg some (vint (by omega)))) hcap) ?_
          refine WL_su (su_store ti92 rfl hB8 (Nat.le_of_ble_eq_true rfl) rfl rfl) rfl rfl ?_
          rintro w17 ⟨hnb, hf18⟩
          have hlt11 := hb11.lt
          have hV : Vis8 w17 b1 b8 ms w.heap.size [b11, b1] se tdr := by
            refine ⟨.slice (some ⟨g, 0, none⟩) tdr.length cap0, g, hB7.fro hf18 (by omega), hSm.fro hf18 (fun e => by have e' : ms = b8 := e; omega), hnb, hTc.fro hf18 (fun e => by have e' : g = b8 := e; omega), .inr ⟨hg1, ?_, hg3, hg4, hg5, by have := Fro.size hf18; omega⟩, hms1, hb81, ?_, ?_, h78⟩
            · simp; exact ⟨by omega, hg5⟩
            · simp; exact ⟨by omega, fun e => hmsL (by simp [e])⟩
            · simp; exact ⟨by omega, by omega⟩
          clear hnb
          have hb11 := hb11.fro hf18 (fun e => by have e' : b11 = b8 := e; omega)
          replace hx := Fro.trans_new hx hf18 (fun _ e => by subst e; exact hb81)
          refine WL_nil ?_
          refine W_seq ?_
          refine W_seq ?_
          refine W_region ?_
          refine WL_val rfl rfl rfl (st_fieldAddr (off := 0) Tryd.underlying94 rfl rfl ti3 rfl) ?_
          refine WL_val rfl rfl rfl (st_load ⟨_, Tryd.underlying3, rfl⟩ rfl (hb11.cell 0 rfl)) ?_
          refine WL_val rfl rfl rfl (st_mv (v := .int _ _) rfl) ?_
          refine WL_val rfl rfl rfl (st_eql rfl rfl) ?_
          refine WL_val rfl rfl rfl (st_mv (v := .bool _) rfl) ?_
          refine WL_split 47 rfl (fun h47 => ?_) (fun h47 => ?_)
          · have g47 := of_decide_eq_true h47
            refine WL_valg rfl rfl rfl (congrArg Value.bool h47) rfl rfl (st_fieldAddr (off := 1) Tryd.underlying94 rfl rfl ti3 rfl) ?_
            refine WL_valg rfl rfl rfl (congrArg Value.bool h47) rfl rfl (st_load ⟨_, Tryd.underlying3, rfl⟩ rfl (hb11.cell 1 rfl)) ?_
            refine WL_valg rfl rfl rfl (congrArg Value.bool h47) rfl rfl (st_eql rfl rfl) ?_
            refine WL_val rfl rfl rfl (st_pk_t (v := .bool _) (congrArg Value.bool h47) rfl) ?_
            refine WL_nil ?_
            refine W_cond rfl (fun h51 => ?_) (fun h51 => ?_)
            · have g51 := of_decide_eq_true h51
              refine W_seq ?_
              refine W_region ?_
              refine WL_val rfl rfl rfl (st_as (v := (.bool true)) rfl) ?_
              refine WL_nil ?_
              refine W_ret ?_
              refine qr1 ?_
              have hpe : p = (en, 3) := Prod.ext (by have := of_decide_eq_true h47; omega) (by have := of_decide_eq_true h51; show p.2 = 3; omega)
              exact ⟨true, rfl, ⟨fun _ => hpe ▸ hSe.vis p (hSe.sub p (by simp)), fun _ => rfl⟩, hx⟩
            · have g51 := of_decide_eq_false h51
              refine W_skip ?_
              refine W_seq ?_
              have hne : p ≠ (en, 3) := fun e => by
                subst e
                first | exact g46 rfl | exact g51 rfl | exact (of_decide_eq_false h51) rfl
              have hSA := hSe.take hne
              have hal := hfew p.1
              have hs : p.1 < N.length := (hSA.lt p hSA.own).1
              have hp3 : p.2 ≤ 3 := (hSA.lt p hSA.own).2
              obtain ⟨gsb, cap, aA, cA, hc1, hc2, hc3⟩ := hN.look hs
              have hd1 := Ext.cell hx hc1
              have hd2 := Ext.cell hx hc2
              obtain ⟨M9, hM9⟩ : ∃ M, M = out (places N.length) se + tdr.length := ⟨_, rfl⟩
              refine W_quiet (Ext w17) mixed (by kernel_rfl) ((Ext.refl _).drew _) ?_
              refine WQ_val rfl rfl rfl (fun _ _ => st_mv (v := .pointer _) rfl) ?_
              refine WQ_val rfl rfl rfl (fun _ _ => st_nilCheck rfl) ?_
              refine WQ_val rfl rfl rfl (fun _ _ => st_fieldAddr (off := 0) Tryd.underlying64 rfl rfl ti62 rfl) ?_
              refine WQ_val rfl rfl rfl (fun w' hx' => st_load ⟨_, Tryd.underlying62, rfl⟩ rfl (Ext.cell hx' hd1)) ?_
              refine WQ_val rfl rfl rfl (fun _ _ => st_fieldAddr (off := 0) Tryd.underlying94 rfl rfl ti3 rfl) ?_
              refine WQ_val rfl rfl rfl (fun w' hx' => st_load ⟨_, Tryd.underlying3, rfl⟩ rfl (hx'.cell (hb11.cell 0 rfl))) ?_
              refine WQ_val rfl rfl rfl (fun _ _ => st_indexAddr (o := 0) (i := p.1) Tryd.underlying62 ti87 rfl rfl rfl hs) ?_
              refine WQ_val rfl rfl rfl (fun w' hx' => st_load ⟨_, Tryd.underlying87, rfl⟩ rfl (Ext.cell hx' hd2)) ?_
              refine WQ_val rfl rfl rfl (fun _ _ => st_len Tryd.underlying87 rfl) ?_
              refine WQ_val rfl rfl rfl (fun _ _ => st_mv (v := (.int .i64 0)) rfl) ?_
              refine WQ_nil ?_
              intro w19 hx20
              replace hx := hx.ext hx20
              replace hV := hV.ext hx20
              replace hb11 := hb11.ext hx20
              refine W_block ?_
              refine W_loop [61] [13, 14, 15, 16, 61, 62, 63, 64, 65, 66, 67, 68, 69, 70, 71, 72, 73, 74, 75, 76, 77, 78, 79, 80, 81, 82, 83, 84, 85, 86, 87, 88, 89, 90, 91, 92, 93, 94, 95, 96, 97, 98, 99] (fun m' vs w1 => ∃ (j : Nat) (se td : List (Nat × Nat)), j + m' = (arws N p.1).length ∧ vs = [.int .i64 (j : Int)] ∧ Vis8 w1 b1 b8 ms w.heap.size [b11, b1] se td ∧ SeaA N ks en se td p j 1 ∧ Blk w1 b11 94 (pcs p) ∧ Ext w w1 ∧ out (places N.length) se + td.length ≤ M9) ?_ ?_
              · exact ⟨(arws N p.1).length, 0, se, tdr, by omega, rfl, hV, hSA, hb11, hx, by rw [← hM9]; exact Nat.le_refl _⟩
              · intro m14 vs w21 u hI
                obtain ⟨j, se, td, hj0, rfl, hV0, hSA, hbp, hx, hM⟩ := hI
                have hsz14 := hx.size
                have hlt14 := hbp.lt
                have hol := out_le (places N.length) se
                rw [places_len] at hol
                have hV := hV0
                refine W_seq ?_
                refine W_region ?_
                refine WL_val rfl rfl rfl (st_lss rfl rfl) ?_
                refine WL_nil ?_
                refine W_seq ?_
                refine W_cond rfl (fun h62 => ?_) (fun h62 => ?_)
                · have g62 := of_decide_eq_true h62
                  refine W_skip ?_
                  refine W_seq ?_
                  refine W_block ?_
                  refine W_seq ?_
                  have hj : j < (arws N p.1).length := by omega
                  obtain ⟨gA, cs, hgA, hcA, fv, rfl, hone, hfv⟩ := hc3 j hj
                  have hr1 : (arws N p.1)[j].to < N.length := hv _ _ (List.getElem_mem hj)
                  have hcA := hcA.ext hx
                  refine W_region ?_
                  refine WL_val rfl rfl rfl (st_indexAddr Tryd.underlying87 ti90 rfl hgA rfl hj) ?_
                  refine WL_val rfl rfl rfl (st_loada ⟨_, Tryd.underlying90, rfl⟩ ti90 rfl hcA rfl) ?_
                  refine WL_ef (ef_alloc ti90) rfl rfl rfl ?_
                  rintro _ w23 ⟨b22, rfl, hl13, hb13, hx24⟩
                  refine WL_su (su_storea ti90 rfl hb13 rfl rfl (Nat.le_of_ble_eq_true rfl) (one3 hone)) rfl rfl ?_
                  rintro w25 ⟨hnb, hf26⟩
                  have hx27 : Ext w21 w25 := hx24.trans_new hf26 (fun _ h => by subst h; exact hl13)
                  clear hb13
                  have hb13 : Blk _ _ _ [_, _, _] := hnb
                  clear hnb
                  replace hx := hx.ext hx27
                  replace hbp := hbp.ext hx27
                  refine WL_nil ?_
                  refine W_seq ?_
                  refine W_seq ?_
                  have hV := hV0.add hx27 hl13
                  have hlp16 := hbp.lt
                  have hlt16 := hb13.lt
                  refine W_region ?_
                  refine WL_val rfl rfl rfl (st_fieldAddr (off := 1) Tryd.underlying90 rfl rfl ti4 rfl) ?_
                  refine WL_val rfl rfl rfl (st_load ⟨_, Tryd.underlying4, rfl⟩ rfl (hb13.cell 1 rfl)) ?_
                  refine WL_nil ?_
                  refine W_cond rfl (fun h66 => ?_) (fun h66 => ?_)
                  · have g66 := h66
                    refine W_seq ?_
                    refine W_region ?_
                    refine WL_val rfl rfl rfl (st_mv (v := .func _ _ _) rfl) ?_
                    refine WL_val rfl rfl rfl (st_fieldAddr (off := 0) Tryd.underlying90 rfl rfl ti3 rfl) ?_
                    refine WL_val rfl rfl rfl (st_load ⟨_, Tryd.underlying3, rfl⟩ rfl (hb13.cell 0 rfl)) ?_
                    refine WL_val rfl rfl rfl (st_fieldAddr (off := 1) Tryd.underlying94 rfl rfl ti3 rfl) ?_
                    refine WL_val rfl rfl rfl (st_load ⟨_, Tryd.underlying3, rfl⟩ rfl (hbp.cell 1 rfl)) ?_
                    refine WL_val rfl rfl rfl (st_build (pl := [(0, 1), (1, 1)]) (cs := [.int .i64 ((arws N p.1)[j].to : Int), .int .i64 (p.2 : Int)]) ti94 Tryd.underlying94 (fun _ => by kernel_rfl) rfl) ?_
                    refine WL_call rfl rfl rfl (visit_ok b1 b8 ms w.heap.size [b22, b11, b1] se td ((arws N p.1)[j].to, p.2) _ hV (by have := Ext.size' hx; have := hV.lt; intro k hk; simp at hk; omega) (Ext.size' hx) (by omega)) (ent_val rfl rfl) ?_
                    rintro _ w28 ⟨rfl, se', td', hAdd, hV2, hx29⟩
                    have hSA2 := hAdd.sea hSA ((hSA.vis p hSA.own).free (List.getElem_mem hj) (Option.isNone_iff_eq_none.1 h66)) hr1 hp3
                    replace hx := Fro.trans_new hx hx29 (fun _ e => e.1)
                    replace hbp := hbp.fro hx29 (fun e => e.2 (by simp))
                    have hV := hV2; clear hV2
                    replace hb13 := hb13.fro hx29 (fun e => e.2 (by simp))
                    refine WL_nil ?_
                    refine W_exit ?_
                    refine W_region ?_
                    refine WL_val rfl rfl rfl (st_add rfl rfl (by omega) (by omega)) ?_
                    refine WL_val rfl rfl rfl (st_mv (v := .int _ _) rfl) ?_
                    refine WL_nil ?_
                    refine rnd_end ?_ (m14 - 1) ?_ ?_
                    · repeat (first | exact agree_in rfl rfl (agree_refl _ _) | exact agree_refl _ _ | refine agree_in rfl rfl ?_ | refine agree_upd rfl ?_)
                    · omega
                    · exact ⟨j + 1, se', td', by omega, vec1 rfl, hV.sub (fun k hk => List.mem_cons_of_mem _ hk), hSA2.free hj (Option.isNone_iff_eq_none.1 h66) hAdd.mem, hbp, hx, by have := hAdd.more (places_mem hr1 hp3); omega⟩
                  · obtain ⟨fn, hfn⟩ : ∃ fn, (arws N p.1)[j].tk = some fn := by
                      cases h : (arws N p.1)[j].tk with
                      | none => rw [h] at h66; cases h66
                      | some fn => exact ⟨fn, rfl⟩
                    rw [hfn] at hfv
                    obtain ⟨kf, bf, rfl, hrun9⟩ := TakesAt.runs hfv
                    refine W_skip ?_
                    refine W_seq ?_
                    refine W_region ?_
                    refine WL_val rfl rfl rfl (st_as (v := (.int .i64 1)) rfl) ?_
                    refine WL_nil ?_
                    refine W_block ?_
                    refine W_loop [14] [14, 15, 16, 74, 75, 76, 77, 78, 79, 80, 81, 82, 83, 84, 85, 86, 87, 88, 89, 90, 91, 92, 93, 94, 95, 96, 97, 98] (fun m' vs w1 => ∃ (b : Nat) (se td : List (Nat × Nat)), b + m' = 256 ∧ 1 ≤ b ∧ vs = [.int .i64 (b : Int)] ∧ Vis8 w1 b1 b8 ms w.heap.size [b22, b11, b1] se td ∧ SeaA N ks en se td p j b ∧ Blk w1 b11 94 (pcs p) ∧ Blk w1 b22 90 [.int .i64 ((arws N p.1)[j].to : Int), .bool (arws N p.1)[j].tk.isNone, .func (.func kf) #[] #[.pointer (some ⟨bf, 0, none⟩)]] ∧ Ext w w1 ∧ out (places N.length) se + td.length ≤ M9) ?_ ?_
                    · exact ⟨255, 1, se, td, by omega, by omega, rfl, hV, hSA, hbp, hb13, hx, hM⟩
                    · intro m19 vs w30 u hI
                      obtain ⟨b, se, td, hb0, hb1, rfl, hV, hSA, hbp, hba, hx, hM⟩ := hI
                      have hsz19 := hx.size
                      have hlt19 := hba.lt
                      have hlp19 := hbp.lt
                      have hol := out_le (places N.length) se
                      rw [places_len] at hol
                      refine W_seq ?_
                      refine W_seq ?_
                      refine W_region ?_
                      refine WL_val rfl rfl rfl (st_mv (v := .int _ _) rfl) ?_
                      refine WL_val rfl rfl rfl (st_lss rfl rfl) ?_
                      refine WL_nil ?_
                      refine W_cond rfl (fun h75 => ?_) (fun h75 => ?_)
                      · have g75 := of_decide_eq_true h75
                        refine W_skip ?_
                        refine W_seq ?_
                        refine W_block ?_
                        refine W_seq ?_
                        refine W_seq ?_
                        refine W_region ?_
                        refine WL_val rfl rfl rfl (st_fieldAddr (off := 2) Tryd.underlying90 rfl rfl ti88 rfl) ?_
                        refine WL_val rfl rfl rfl (st_load ⟨_, Tryd.underlying88, rfl⟩ rfl (hba.cell 2 rfl)) ?_
                        refine WL_val rfl rfl rfl (st_mv (v := .int _ _) rfl) ?_
                        refine WL_val rfl rfl rfl (st_cv ⟨_, Tryd.underlying3⟩ Tryd.underlying5 (by omega : b < 256) rfl) ?_
                        refine WL_call rfl rfl rfl (hrun9 _ hx b.toUInt8) (ent_val rfl rfl) ?_
                        rintro _ w31 ⟨rfl, hx32⟩
                        replace hx := hx.ext hx32
                        replace hbp := hbp.ext hx32
                        replace hba := hba.ext hx32
                        replace hV := hV.ext hx32
                        refine WL_val rfl rfl rfl (st_not rfl) ?_
                        refine WL_nil ?_
                        refine W_cond rfl (fun h83 => ?_) (fun h83 => ?_)
                        · have g83 := h83
                          refine W_exit ?_
                          refine W_region ?_
                          refine WL_val rfl rfl rfl (st_mv (v := .int _ _) rfl) ?_
                          refine WL_val rfl rfl rfl (st_add rfl rfl (by omega) (by omega)) ?_
                          refine WL_val rfl rfl rfl (st_as (v := .int _ _) rfl) ?_
                          refine WL_nil ?_
                          refine rnd_end ?_ (m19 - 1) ?_ ?_
                          · repeat (first | exact agree_in rfl rfl (agree_refl _ _) | exact agree_refl _ _ | refine agree_in rfl rfl ?_ | refine agree_upd rfl ?_)
                          · omega
                          · exact ⟨b + 1, se, td, by omega, by omega, vec1 rfl, hV, hSA.byte hj hfn (by omega) (fun hf => by rw [hf] at h83; cases h83), hbp, hba, hx, hM⟩
                        · have g83 := h83
                          refine W_skip ?_
                          refine W_seq ?_
                          have hfb : fn b.toUInt8 = true := not_f h83
                          have hne0 : b.toUInt8 ≠ 0 := fun e => by have e2 := congrArg UInt8.toNat e; simp at e2; omega
                          refine W_region ?_
                          refine WL_val rfl rfl rfl (st_fieldAddr (off := 1) Tryd.underlying94 rfl rfl ti3 rfl) ?_
                          refine WL_val rfl rfl rfl (st_load ⟨_, Tryd.underlying3, rfl⟩ rfl (hbp.cell 1 rfl)) ?_
                          refine WL_val rfl rfl rfl (st_mv (v := .int _ _) rfl) ?_
                          refine WL_val rfl rfl rfl (st_convi ⟨_, Tryd.underlying3⟩ Tryd.underlying5 rfl) ?_
                          refine WL_call rfl rfl rfl (grown_ok p.2 b.toUInt8 hp3 _) (ent_go rfl) ?_
                          rintro _ w33 ⟨kk, bb, rfl, hgy, hgn, hx34⟩
                          replace hx := hx.ext hx34
                          replace hbp := hbp.ext hx34
                          replace hba := hba.ext hx34
                          replace hV := hV.ext hx34
                          refine WL_val rfl rfl rfl (st_mv (v := .tuple _) rfl) ?_
                          refine WL_val rfl rfl rfl (st_extract rfl rfl) ?_
                          refine WL_val rfl rfl rfl (st_extract rfl rfl) ?_
                          refine WL_val rfl rfl rfl (st_as (v := .int _ _) rfl) ?_
                          refine WL_val rfl rfl rfl (st_as (v := .bool _) rfl) ?_
                          refine WL_nil ?_
                          refine W_seq ?_
                          refine W_region ?_
                          refine WL_val rfl rfl rfl (st_mv (v := .bool _) rfl) ?_
                          refine WL_nil ?_
                          refine W_cond rfl (fun h92 => ?_) (fun h92 => ?_)
                          · have g92 := h92
                            have hlz := hba.lt
                            have hlz2 := hbp.lt
                            refine W_region ?_
                            refine WL_val rfl rfl rfl (st_mv (v := .func _ _ _) rfl) ?_
                            refine WL_val rfl rfl rfl (st_fieldAddr (off := 0) Tryd.underlying90 rfl rfl ti3 rfl) ?_
                            refine WL_val rfl rfl rfl (st_load ⟨_, Tryd.underlying3, rfl⟩ rfl (hba.cell 0 rfl)) ?_
                            refine WL_val rfl rfl rfl (st_mv (v := .int _ _) rfl) ?_
                            refine WL_val rfl rfl rfl (st_build (pl := [(0, 1), (1, 1)]) (cs := [.int .i64 ((arws N p.1)[j].to : Int), .int .i64 (kk : Int)]) ti94 Tryd.underlying94 (fun _ => by kernel_rfl) rfl) ?_
                            refine WL_call rfl rfl rfl (visit_ok b1 b8 ms w.heap.size [b22, b11, b1] se td ((arws N p.1)[j].to, kk) _ hV (by have := Ext.size' hx; have := hV.lt; intro k hk; simp at hk; omega) (Ext.size' hx) (by omega)) (ent_val rfl rfl) ?_
                            rintro _ w35 ⟨rfl, se', td', hAdd, hV2, hx36⟩
                            have hk3 := grw_le hp3 (hgy h92)
                            have hSA2 := hAdd.sea hSA ((hSA.vis p hSA.own).take (List.getElem_mem hj) hfn hfb hne0 (hgy h92)) hr1 hk3
                            replace hx := Fro.trans_new hx hx36 (fun _ e => e.1)
                            replace hbp := hbp.fro hx36 (fun e => e.2 (by simp))
                            replace hba := hba.fro hx36 (fun e => e.2 (by simp))
                            have hV := hV2; clear hV2
                            refine WL_nil ?_
                            refine W_region ?_
                            refine WL_val rfl rfl rfl (st_mv (v := .int _ _) rfl) ?_
                            refine WL_val rfl rfl rfl (st_add rfl rfl (by omega) (by omega)) ?_
                            refine WL_val rfl rfl rfl (st_as (v := .int _ _) rfl) ?_
                            refine WL_nil ?_
                            refine rnd_end ?_ (m19 - 1) ?_ ?_
                            · repeat (first | exact agree_in rfl rfl (agree_refl _ _) | exact agree_refl _ _ | refine agree_in rfl rfl ?_ | refine agree_upd rfl ?_)
                            · omega
                            · exact ⟨b + 1, se', td', by omega, by omega, vec1 rfl, hV, hSA2.byte hj hfn (by omega) (fun _ m hm => by rw [hgy h92] at hm; injection hm with hm; subst hm; exact hAdd.mem), hbp, hba, hx, by have := hAdd.more (places_mem hr1 hk3); omega⟩
                          · have g92 := h92
                            refine W_skip ?_
                            refine W_region ?_
                            refine WL_val rfl rfl rfl (st_mv (v := .int _ _) rfl) ?_
                            refine WL_val rfl rfl rfl (st_add rfl rfl (by omega) (by omega)) ?_
                            refine WL_val rfl rfl rfl (st_as (v := .int _ _) rfl) ?_
                            refine WL_nil ?_
                            refine rnd_end ?_ (m19 - 1) ?_ ?_
                            · repeat (first | exact agree_in rfl rfl (agree_refl _ _) | exact agree_refl _ _ | refine agree_in rfl rfl ?_ | refine agree_upd rfl ?_)
                            · omega
                            · exact ⟨b + 1, se, td, by omega, by omega, vec1 rfl, hV, hSA.byte hj hfn (by omega) (fun _ m hm => by rw [hgn h92] at hm; cases hm), hbp, hba, hx, hM⟩
                      · have g75 := of_decide_eq_false h75
                        refine W_exit ?_
                        refine W_region ?_
                        refine WL_val rfl rfl rfl (st_add rfl rfl (by omega) (by omega)) ?_
                        refine WL_val rfl rfl rfl (st_mv (v := .int _ _) rfl) ?_
                        refine WL_nil ?_
                        refine rnd_end ?_ (m14 - 1) ?_ ?_
                        · repeat (first | exact agree_in rfl rfl (agree_refl _ _) | exact agree_refl _ _ | refine agree_in rfl rfl ?_ | refine agree_upd rfl ?_)
                        · omega
                        · exact ⟨j + 1, se, td, by omega, vec1 rfl, hV.sub (fun k hk => List.mem_cons_of_mem _ hk), hSA.taken hj hfn (by omega), hbp, hx, hM⟩
                · have g62 := of_decide_eq_false h62
                  refine W_exit ?_
                  refine And.intro ?_ (Exists.intro (out (places N.length) se + td.length) (And.intro ?_ ?_))
                  · repeat (first | exact agree_in rfl rfl (agree_refl _ _) | exact agree_refl _ _ | refine agree_in rfl rfl ?_ | refine agree_upd rfl ?_)
                  · omega
                  · exact ⟨se, td, rfl, rfl, hV.sub (fun k hk => List.mem_cons_of_mem _ hk), hSA.done (by omega), hx, by omega⟩
          · have g47 := of_decide_eq_false h47
            refine WL_pass rfl rfl rfl (congrArg Value.bool h47) rfl rfl ?_
            refine WL_pass rfl rfl rfl (congrArg Value.bool h47) rfl rfl ?_
            refine WL_pass rfl rfl rfl (congrArg Value.bool h47) rfl rfl ?_
            refine WL_val rfl rfl rfl (st_pk_f (v := (.bool false)) (congrArg Value.bool h47) rfl) ?_
            refine WL_nil ?_
            refine W_no rfl ?_
            refine W_skip ?_
            refine W_seq ?_
            have hne : p ≠ (en, 3) := fun e => by
              subst e
              exact g47 rfl
            have hSA := hSe.take hne
            have hal := hfew p.1
            have hs : p.1 < N.length := (hSA.lt p hSA.own).1
            have hp3 : p.2 ≤ 3 := (hSA.lt p hSA.own).2
            obtain ⟨gsb, cap, aA, cA, hc1, hc2, hc3⟩ := hN.look hs
            have hd1 := Ext.cell hx hc1
            have hd2 := Ext.cell hx hc2
            obtain ⟨M9, hM9⟩ : ∃ M, M = out (places N.length) se + tdr.length := ⟨_, rfl⟩
            refine W_quiet (Ext w17) mixed (by kernel_rfl) ((Ext.refl _).drew _) ?_
            refine WQ_val rfl rfl rfl (fun _ _ => st_mv (v := .pointer _) rfl) ?_
            refine WQ_val rfl rfl rfl (fun _ _ => st_nilCheck rfl) ?_
            refine WQ_val rfl rfl rfl (fun _ _ => st_fieldAddr (off := 0) Tryd.underlying64 rfl rfl ti62 rfl) ?_
            refine WQ_val rfl rfl rfl (fun w' hx' => st_load ⟨_, Tryd.underlying62, rfl⟩ rfl (Ext.cell hx' hd1)) ?_
            refine WQ_val rfl rfl rfl (fun _ _ => st_fieldAddr (off := 0) Tryd.underlying94 rfl rfl ti3 rfl) ?_
            refine WQ_val rfl rfl rfl (fun w' hx' => st_load ⟨_, Tryd.underlying3, rfl⟩ rfl (hx'.cell (hb11.cell 0 rfl))) ?_
            refine WQ_val rfl rfl rfl (fun _ _ => st_indexAddr (o := 0) (i := p.1) Tryd.underlying62 ti87 rfl rfl rfl hs) ?_
            refine WQ_val rfl rfl rfl (fun w' hx' => st_load ⟨_, Tryd.underlying87, rfl⟩ rfl (Ext.cell hx' hd2)) ?_
            refine WQ_val rfl rfl rfl (fun _ _ => st_len Tryd.underlying87 rfl) ?_
            refine WQ_val rfl rfl rfl (fun _ _ => st_mv (v := (.int .i64 0)) rfl) ?_
            refine WQ_nil ?_
            intro w37 hx38
            replace hx := hx.ext hx38
            replace hV := hV.ext hx38
            replace hb11 := hb11.ext hx38
            refine W_block ?_
            refine W_loop [61] [13, 14, 15, 16, 61, 62, 63, 64, 65, 66, 67, 68, 69, 70, 71, 72, 73, 74, 75, 76, 77, 78, 79, 80, 81, 82, 83, 84, 85, 86, 87, 88, 89, 90, 91, 92, 93, 94, 95, 96, 97, 98, 99] (fun m' vs w1 => ∃ (j : Nat) (se td : List (Nat × Nat)), j + m' = (arws N p.1).length ∧ vs = [.int .i64 (j : Int)] ∧ Vis8 w1 b1 b8 ms w.heap.size [b11, b1] se td ∧ SeaA N ks en se td p j 1 ∧ Blk w1 b11 94 (pcs p) ∧ Ext w w1 ∧ out (places N.length) se + td.length ≤ M9) ?_ ?_
            · exact ⟨(arws N p.1).length, 0, se, tdr, by omega, rfl, hV, hSA, hb11, hx, by rw [← hM9]; exact Nat.le_refl _⟩
            · intro m14 vs w39 u hI
              obtain ⟨j, se, td, hj0, rfl, hV0, hSA, hbp, hx, hM⟩ := hI
              have hsz14 := hx.size
              have hlt14 := hbp.lt
              have hol := out_le (places N.length) se
              rw [places_len] at hol
              have hV := hV0
              refine W_seq ?_
              refine W_region ?_
              refine WL_val rfl rfl rfl (st_lss rfl rfl) ?_
              refine WL_nil ?_
              refine W_seq ?_
              refine W_cond rfl (fun h62 => ?_) (fun h62 => ?_)
              · have g62 := of_decide_eq_true h62
                refine W_skip ?_
                refine W_seq ?_
                refine W_block ?_
                refine W_seq ?_
                have hj : j < (arws N p.1).length := by omega
                obtain ⟨gA, cs, hgA, hcA, fv, rfl, hone, hfv⟩ := hc3 j hj
                have hr1 : (arws N p.1)[j].to < N.length := hv _ _ (List.getElem_mem hj)
                have hcA := hcA.ext hx
                refine W_region ?_
                refine WL_val rfl rfl rfl (st_indexAddr Tryd.underlying87 ti90 rfl hgA rfl hj) ?_
                refine WL_val rfl rfl rfl (st_loada ⟨_, Tryd.underlying90, rfl⟩ ti90 rfl hcA rfl) ?_
                refine WL_ef (ef_alloc ti90) rfl rfl rfl ?_
                rintro _ w41 ⟨b40, rfl, hl13, hb13, hx42⟩
                refine WL_su (su_storea ti90 rfl hb13 rfl rfl (Nat.le_of_ble_eq_true rfl) (one3 hone)) rfl rfl ?_
                rintro w43 ⟨hnb, hf44⟩
                have hx45 : Ext w39 w43 := hx42.trans_new hf44 (fun _ h => by subst h; exact hl13)
                clear hb13
                have hb13 : Blk _ _ _ [_, _, _] := hnb
                clear hnb
                replace hx := hx.ext hx45
                replace hbp := hbp.ext hx45
                refine WL_nil ?_
                refine W_seq ?_
                refine W_seq ?_
                have hV := hV0.add hx45 hl13
                have hlp16 := hbp.lt
                have hlt16 := hb13.lt
                refine W_region ?_
                refine WL_val rfl rfl rfl (st_fieldAddr (off := 1) Tryd.underlying90 rfl rfl ti4 rfl) ?_
                refine WL_val rfl rfl rfl (st_load ⟨_, Tryd.underlying4, rfl⟩ rfl (hb13.cell 1 rfl)) ?_
                refine WL_nil ?_
                refine W_cond rfl (fun h66 => ?_) (fun h66 => ?_)
                · have g66 := h66
                  refine W_seq ?_
                  refine W_region ?_
                  refine WL_val rfl rfl rfl (st_mv (v := .func _ _ _) rfl) ?_
                  refine WL_val rfl rfl rfl (st_fieldAddr (off := 0) Tryd.underlying90 rfl rfl ti3 rfl) ?_
                  refine WL_val rfl rfl rfl (st_load ⟨_, Tryd.underlying3, rfl⟩ rfl (hb13.cell 0 rfl)) ?_
                  refine WL_val rfl rfl rfl (st_fieldAddr (off := 1) Tryd.underlying94 rfl rfl ti3 rfl) ?_
                  refine WL_val rfl rfl rfl (st_load ⟨_, Tryd.underlying3, rfl⟩ rfl (hbp.cell 1 rfl)) ?_
                  refine WL_val rfl rfl rfl (st_build (pl := [(0, 1), (1, 1)]) (cs := [.int .i64 ((arws N p.1)[j].to : Int), .int .i64 (p.2 : Int)]) ti94 Tryd.underlying94 (fun _ => by kernel_rfl) rfl) ?_
                  refine WL_call rfl rfl rfl (visit_ok b1 b8 ms w.heap.size [b40, b11, b1] se td ((arws N p.1)[j].to, p.2) _ hV (by have := Ext.size' hx; have := hV.lt; intro k hk; simp at hk; omega) (Ext.size' hx) (by omega)) (ent_val rfl rfl) ?_
                  rintro _ w46 ⟨rfl, se', td', hAdd, hV2, hx47⟩
                  have hSA2 := hAdd.sea hSA ((hSA.vis p hSA.own).free (List.getElem_mem hj) (Option.isNone_iff_eq_none.1 h66)) hr1 hp3
                  replace hx := Fro.trans_new hx hx47 (fun _ e => e.1)
                  replace hbp := hbp.fro hx47 (fun e => e.2 (by simp))
                  have hV := hV2; clear hV2
                  replace hb13 := hb13.fro hx47 (fun e => e.2 (by simp))
                  refine WL_nil ?_
                  refine W_exit ?_
                  refine W_region ?_
                  refine WL_val rfl rfl rfl (st_add rfl rfl (by omega) (by omega)) ?_
                  refine WL_val rfl rfl rfl (st_mv (v := .int _ _) rfl) ?_
                  refine WL_nil ?_
                  refine rnd_end ?_ (m14 - 1) ?_ ?_
                  · repeat (first | exact agree_in rfl rfl (agree_refl _ _) | exact agree_refl _ _ | refine agree_in rfl rfl ?_ | refine agree_upd rfl ?_)
                  · omega
                  · exact ⟨j + 1, se', td', by omega, vec1 rfl, hV.sub (fun k hk => List.mem_cons_of_mem _ hk), hSA2.free hj (Option.isNone_iff_eq_none.1 h66) hAdd.mem, hbp, hx, by have := hAdd.more (places_mem hr1 hp3); omega⟩
                · obtain ⟨fn, hfn⟩ : ∃ fn, (arws N p.1)[j].tk = some fn := by
                    cases h : (arws N p.1)[j].tk with
                    | none => rw [h] at h66; cases h66
                    | some fn => exact ⟨fn, rfl⟩
                  rw [hfn] at hfv
                  obtain ⟨kf, bf, rfl, hrun9⟩ := TakesAt.runs hfv
                  refine W_skip ?_
                  refine W_seq ?_
                  refine W_region ?_
                  refine WL_val rfl rfl rfl (st_as (v := (.int .i64 1)) rfl) ?_
                  refine WL_nil ?_
                  refine W_block ?_
                  refine W_loop [14] [14, 15, 16, 74, 75, 76, 77, 78, 79, 80, 81, 82, 83, 84, 85, 86, 87, 88, 89, 90, 91, 92, 93, 94, 95, 96, 97, 98] (fun m' vs w1 => ∃ (b : Nat) (se td : List (Nat × Nat)), b + m' = 256 ∧ 1 ≤ b ∧ vs = [.int .i64 (b : Int)] ∧ Vis8 w1 b1 b8 ms w.heap.size [b40, b11, b1] se td ∧ SeaA N ks en se td p j b ∧ Blk w1 b11 94 (pcs p) ∧ Blk w1 b40 90 [.int .i64 ((arws N p.1)[j].to : Int), .bool (arws N p.1)[j].tk.isNone, .func (.func kf) #[] #[.pointer (some ⟨bf, 0, none⟩)]] ∧ Ext w w1 ∧ out (places N.length) se + td.length ≤ M9) ?_ ?_
                  · exact ⟨255, 1, se, td, by omega, by omega, rfl, hV, hSA, hbp, hb13, hx, hM⟩
                  · intro m19 vs w48 u hI
                    obtain ⟨b, se, td, hb0, hb1, rfl, hV, hSA, hbp, hba, hx, hM⟩ := hI
                    have hsz19 := hx.size
                    have hlt19 := hba.lt
                    have hlp19 := hbp.lt
                    have hol := out_le (places N.length) se
                    rw [places_len] at hol
                    refine W_seq ?_
                    refine W_seq ?_
                    refine W_region ?_
                    refine WL_val rfl rfl rfl (st_mv (v := .int _ _) rfl) ?_
                    refine WL_val rfl rfl rfl (st_lss rfl rfl) ?_
                    refine WL_nil ?_
                    refine W_cond rfl (fun h75 => ?_) (fun h75 => ?_)
                    · have g75 := of_decide_eq_true h75
                      refine W_skip ?_
                      refine W_seq ?_
                      refine W_block ?_
                      refine W_seq ?_
                      refine W_seq ?_
                      refine W_region ?_
                      refine WL_val rfl rfl rfl (st_fieldAddr (off := 2) Tryd.underlying90 rfl rfl ti88 rfl) ?_
                      refine WL_val rfl rfl rfl (st_load ⟨_, Tryd.underlying88, rfl⟩ rfl (hba.cell 2 rfl)) ?_
                      refine WL_val rfl rfl rfl (st_mv (v := .int _ _) rfl) ?_
                      refine WL_val rfl rfl rfl (st_cv ⟨_, Tryd.underlying3⟩ Tryd.underlying5 (by omega : b < 256) rfl) ?_
                      refine WL_call rfl rfl rfl (hrun9 _ hx b.toUInt8) (ent_val rfl rfl) ?_
                      rintro _ w49 ⟨rfl, hx50⟩
                      replace hx := hx.ext hx50
                      replace hbp := hbp.ext hx50
                      replace hba := hba.ext hx50
                      replace hV := hV.ext hx50
                      refine WL_val rfl rfl rfl (st_not rfl) ?_
                      refine WL_nil ?_
                      refine W_cond rfl (fun h83 => ?_) (fun h83 => ?_)
                      · have g83 := h83
                        refine W_exit ?_
                        refine W_region ?_
                        refine WL_val rfl rfl rfl (st_mv (v := .int _ _) rfl) ?_
                        refine WL_val rfl rfl rfl (st_add rfl rfl (by omega) (by omega)) ?_
                        refine WL_val rfl rfl rfl (st_as (v := .int _ _) rfl) ?_
                        refine WL_nil ?_
                        refine rnd_end ?_ (m19 - 1) ?_ ?_
                        · repeat (first | exact agree_in rfl rfl (agree_refl _ _) | exact agree_refl _ _ | refine agree_in rfl rfl ?_ | refine agree_upd rfl ?_)
                        · omega
                        · exact ⟨b + 1, se, td, by omega, by omega, vec1 rfl, hV, hSA.byte hj hfn (by omega) (fun hf => by rw [hf] at h83; cases h83), hbp, hba, hx, hM⟩
                      · have g83 := h83
                        refine W_skip ?_
                        refine W_seq ?_
                        have hfb : fn b.toUInt8 = true := not_f h83
                        have hne0 : b.toUInt8 ≠ 0 := fun e => by have e2 := congrArg UInt8.toNat e; simp at e2; omega
                        refine W_region ?_
                        refine WL_val rfl rfl rfl (st_fieldAddr (off := 1) Tryd.underlying94 rfl rfl ti3 rfl) ?_
                        refine WL_val rfl rfl rfl (st_load ⟨_, Tryd.underlying3, rfl⟩ rfl (hbp.cell 1 rfl)) ?_
                        refine WL_val rfl rfl rfl (st_mv (v := .int _ _) rfl) ?_
                        refine WL_val rfl rfl rfl (st_convi ⟨_, Tryd.underlying3⟩ Tryd.underlying5 rfl) ?_
                        refine WL_call rfl rfl rfl (grown_ok p.2 b.toUInt8 hp3 _) (ent_go rfl) ?_
                        rintro _ w51 ⟨kk, bb, rfl, hgy, hgn, hx52⟩
                        replace hx := hx.ext hx52
                        replace hbp := hbp.ext hx52
                        replace hba := hba.ext hx52
                        replace hV := hV.ext hx52
                        refine WL_val rfl rfl rfl (st_mv (v := .tuple _) rfl) ?_
                        refine WL_val rfl rfl rfl (st_extract rfl rfl) ?_
                        refine WL_val rfl rfl rfl (st_extract rfl rfl) ?_
                        refine WL_val rfl rfl rfl (st_as (v := .int _ _) rfl) ?_
                        refine WL_val rfl rfl rfl (st_as (v := .bool _) rfl) ?_
                        refine WL_nil ?_
                        refine W_seq ?_
                        refine W_region ?_
                        refine WL_val rfl rfl rfl (st_mv (v := .bool _) rfl) ?_
                        refine WL_nil ?_
                        refine W_cond rfl (fun h92 => ?_) (fun h92 => ?_)
                        · have g92 := h92
                          have hlz := hba.lt
                          have hlz2 := hbp.lt
                          refine W_region ?_
                          refine WL_val rfl rfl rfl (st_mv (v := .func _ _ _) rfl) ?_
                          refine WL_val rfl rfl rfl (st_fieldAddr (off := 0) Tryd.underlying90 rfl rfl ti3 rfl) ?_
                          refine WL_val rfl rfl rfl (st_load ⟨_, Tryd.underlying3, rfl⟩ rfl (hba.cell 0 rfl)) ?_
                          refine WL_val rfl rfl rfl (st_mv (v := .int _ _) rfl) ?_
                          refine WL_val rfl rfl rfl (st_build (pl := [(0, 1), (1, 1)]) (cs := [.int .i64 ((arws N p.1)[j].to : Int), .int .i64 (kk : Int)]) ti94 Tryd.underlying94 (fun _ => by kernel_rfl) rfl) ?_
                          refine WL_call rfl rfl rfl (visit_ok b1 b8 ms w.heap.size [b40, b11, b1] se td ((arws N p.1)[j].to, kk) _ hV (by have := Ext.size' hx; have := hV.lt; intro k hk; simp at hk; omega) (Ext.size' hx) (by omega)) (ent_val rfl rfl) ?_
                          rintro _ w53 ⟨rfl, se', td', hAdd, hV2, hx54⟩
                          have hk3 := grw_le hp3 (hgy h92)
                          have hSA2 := hAdd.sea hSA ((hSA.vis p hSA.own).take (List.getElem_mem hj) hfn hfb hne0 (hgy h92)) hr1 hk3
                          replace hx := Fro.trans_new hx hx54 (fun _ e => e.1)
                          replace hbp := hbp.fro hx54 (fun e => e.2 (by simp))
                          replace hba := hba.fro hx54 (fun e => e.2 (by simp))
                          have hV := hV2; clear hV2
                          refine WL_nil ?_
                          refine W_region ?_
                          refine WL_val rfl rfl rfl (st_mv (v := .int _ _) rfl) ?_
                          refine WL_val rfl rfl rfl (st_add rfl rfl (by omega) (by omega)) ?_
                          refine WL_val rfl rfl rfl (st_as (v := .int _ _) rfl) ?_
                          refine WL_nil ?_
                          refine rnd_end ?_ (m19 - 1) ?_ ?_
                          · repeat (first | exact agree_in rfl rfl (agree_refl _ _) | exact agree_refl _ _ | refine agree_in rfl rfl ?_ | refine agree_upd rfl ?_)
                          · omega
                          · exact ⟨b + 1, se', td', by omega, by omega, vec1 rfl, hV, hSA2.byte hj hfn (by omega) (fun _ m hm => by rw [hgy h92] at hm; injection hm with hm; subst hm; exact hAdd.mem), hbp, hba, hx, by have := hAdd.more (places_mem hr1 hk3); omega⟩
                        · have g92 := h92
                          refine W_skip ?_
                          refine W_region ?_
                          refine WL_val rfl rfl rfl (st_mv (v := .int _ _) rfl) ?_
                          refine WL_val rfl rfl rfl (st_add rfl rfl (by omega) (by omega)) ?_
                          refine WL_val rfl rfl rfl (st_as (v := .int _ _) rfl) ?_
                          refine WL_nil ?_
                          refine rnd_end ?_ (m19 - 1) ?_ ?_
                          · repeat (first | exact agree_in rfl rfl (agree_refl _ _) | exact agree_refl _ _ | refine agree_in rfl rfl ?_ | refine agree_upd rfl ?_)
                          · omega
                          · exact ⟨b + 1, se, td, by omega, by omega, vec1 rfl, hV, hSA.byte hj hfn (by omega) (fun _ m hm => by rw [hgn h92] at hm; cases hm), hbp, hba, hx, hM⟩
                    · have g75 := of_decide_eq_false h75
                      refine W_exit ?_
                      refine W_region ?_
                      refine WL_val rfl rfl rfl (st_add rfl rfl (by omega) (by omega)) ?_
                      refine WL_val rfl rfl rfl (st_mv (v := .int _ _) rfl) ?_
                      refine WL_nil ?_
                      refine rnd_end ?_ (m14 - 1) ?_ ?_
                      · repeat (first | exact agree_in rfl rfl (agree_refl _ _) | exact agree_refl _ _ | refine agree_in rfl rfl ?_ | refine agree_upd rfl ?_)
                      · omega
                      · exact ⟨j + 1, se, td, by omega, vec1 rfl, hV.sub (fun k hk => List.mem_cons_of_mem _ hk), hSA.taken hj hfn (by omega), hbp, hx, hM⟩
              · have g62 := of_decide_eq_false h62
                refine W_exit ?_
                refine And.intro ?_ (Exists.intro (out (places N.length) se + td.length) (And.intro ?_ ?_))
                · repeat (first | exact agree_in rfl rfl (agree_refl _ _) | exact agree_refl _ _ | refine agree_in rfl rfl ?_ | refine agree_upd rfl ?_)
                · omega
                · exact ⟨se, td, rfl, rfl, hV.sub (fun k hk => List.mem_cons_of_mem _ hk), hSA.done (by omega), hx, by omega⟩
        · have g31 := of_decide_eq_false h31
          refine W_exit ?_
          refine W_seq ?_
          refine W_region ?_
          refine WL_val rfl rfl rfl (st_as (v := (.bool false)) rfl) ?_
          refine WL_nil ?_
          refine W_ret ?_
          refine qr1 ?_
          have htd : td = [] := List.length_eq_zero_iff.1 (by omega)
          subst htd
          exact ⟨false, rfl, ⟨fun h => (by cases h), fun h => absurd h hSe.done⟩, hx⟩
end Go.Proofs.YtndfhicdabdafaaDoor
