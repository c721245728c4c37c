/- Walks of closure and step of the net. -/
import Derived.Test.YtndfhicdabdafaaDoorU
import Derived.Test.YtndfhicdabdafaaDoorT
import Derived.Test.YtndfhicdabdafaaDoorC15
namespace Go.Proofs.YtndfhicdabdafaaDoor
open Go Go.RowKit

theorem keyS : KeyOk Tryd.prog 3 mkI := keyI Tryd.underlying3 rfl
/-- What a function value of an arrow does. -/
theorem TakesAt.run {w : World} {n lim : Nat} {fv : Value} {f : UInt8 → Bool} (h : TakesAt w n lim fv f) : ∃ k b, fv = .func (.func k) #[] #[.pointer (some ⟨b, 0, none⟩)] ∧ ∀ c : UInt8, Fun Tryd.prog k [.int .u8 (c.toNat : Int), .pointer (some ⟨b, 0, none⟩)] w (fun r w' => r = .bool (f c) ∧ Ext w w') := by
  rcases h with ⟨b, c0, _, rfl, hb, rfl⟩ | ⟨b, p, ra, rc, wa, wc, _, rfl, hb, hpr, rfl⟩ | ⟨b, p, ra, rc, wa, wc, _, rfl, hb, rfl⟩
  · exact ⟨_, b, rfl, fun c => take1_ok b c c0 w hb⟩
  · exact ⟨_, b, rfl, fun c => take2_ok b n c p ra wa rc wc w hb hpr⟩
  · exact ⟨_, b, rfl, fun c => take3_ok b c p ra wa rc wc w hb⟩
set_option maxHeartbeats 1000000 in
theorem closure_ok (n base nb m : Nat) (N : NetL) (ks : List Nat) (w : World) (hN : Net w n base nb N) (hS : SetAt w m mkI ks) (hv : Val N) (hlt : ∀ q ∈ ks, q < N.length) (hNl : N.length ≤ 500000000) (hfew : Few 0 N) :
    Fun Tryd.prog 32 [.pointer (some ⟨nb, 0, none⟩), .map (some m)] w (fun r w' => r = .tuple #[] ∧ ∃ ks', SetAt w' m mkI ks' ∧ (∀ q, q ∈ ks' ↔ ∃ s ∈ ks, Run N s [] q) ∧ Fro (· = m) w w') := by
  have hkl : ks.length ≤ N.length := by
    have := nodup_len (U := List.range N.length) hS.nodup (fun a h => range_mem (hlt a h))
    rw [List.length_range] at this
    omega
  have hml := hS.lt
  refine fun0 Tryd.func32 rfl (by kernel_rfl) rfl rfl rfl ?_
  refine W_seq ?_
  refine W_region ?_
  refine WL_val rfl rfl rfl (st_as (v := (.slice none 0 0)) rfl) ?_
  refine WL_nil ?_
  refine W_seq ?_
  refine W_seq ?_
  refine W_region ?_
  refine WL_val rfl rfl rfl (st_mv (v := .map _) rfl) ?_
  refine WL_ef (ef_rangeM Tryd.underlying67 rfl hS) rfl rfl rfl ?_
  rintro _ w2 ⟨r, rfl, hrl, hR, hx⟩
  refine WL_nil ?_
  refine W_block ?_
  refine W_loop [4] [4, 5, 11, 12, 13, 14, 15, 16, 17, 18] (fun m' vs w1 => ∃ (done : List Nat) (v : Value) (g c : Nat) (td : List Nat), c = m' ∧ vs = [v] ∧ RngAt w1 r m mkI ks done c ∧ Own w1 3 1 v td.length (td.map mkI) g ∧ (∀ q, q ∈ td ↔ q ∈ done) ∧ w.heap.size ≤ g ∧ g ≠ r ∧ Ext w w1 ∧ td.length + c ≤ ks.length) ?_ ?_
  · exact ⟨ks.length, [], _, r + 1, _, [], rfl, rfl, hR, Own.nil _ _ _ _, fun q => Iff.rfl, by omega, by omega, hx, by simp⟩
  · intro m' vs w1 u hI
    obtain ⟨done, v, g, c, td, rfl, rfl, hR, hT, htd, hg, hgr, hx, hcl⟩ := hI
    obtain ⟨a0, cap0, rfl, hp0⟩ := hT.form
    have hrl2 := hR.lt
    refine W_seq ?_
    refine W_region ?_
    rcases (hR.next keyS).symm with ⟨a, c9, w3n, ha, hna, hc9, hrun, hR3, hF3, hsz3, hent⟩ | ⟨hall, hrun⟩
    · refine WL_val rfl rfl rfl (st_nextM rfl hrun) ?_
      replace hT := hT.fro hF3 hgr
      replace hx := Fro.trans_new hx hF3 (fun _ e => by subst e; exact hrl)
      refine WL_val rfl rfl rfl (st_extract rfl rfl) ?_
      refine WL_nil ?_
      refine W_seq ?_
      refine W_yes rfl ?_
      refine W_skip ?_
      refine W_block ?_
      refine W_seq ?_
      refine W_region ?_
      refine WL_val rfl rfl rfl (st_entryM rfl hent) ?_
      replace hR := hR3
      refine WL_val rfl rfl rfl (st_extract rfl rfl) ?_
      refine WL_val rfl rfl rfl (st_as (v := .int _ _) rfl) ?_
      refine WL_nil ?_
      refine W_region ?_
      refine WL_val rfl rfl rfl (st_mv (v := .slice _ _ _) rfl) ?_
      refine WL_val rfl rfl rfl (st_mv (v := .int _ _) rfl) ?_
      refine WL_ef (ef_buildSlice (len := 1) (cs := [mkI a]) Tryd.underlying86 ti3 (by decide) (by decide) rfl) rfl rfl rfl ?_
      rintro _ w4 ⟨gn, rfl, hgn, hbn, hx4⟩
      replace hR := hR.ext hx4
      replace hT := hT.ext hx4
      replace hx := hx.ext hx4
      refine WL_ef (ef_append (news := [mkI a]) Tryd.underlying86 Tryd.underlying86 isSl_slice ti3 rfl rfl hT rfl (src_slice (by rfl) (.inr ⟨gn, 0, rfl, hbn.cells⟩) (fun h => by cases h)) rfl rfl (by omega) (by omega)) rfl rfl rfl ?_
      rintro v5 w5 ⟨g5, hT5, hf5, hg5, _⟩
      obtain ⟨a5, cap5, rfl, hp5⟩ := hT5.form
      have hrw4 : r < w4.heap.size := hR.lt.1
      replace hR := hR.fro hf5 (fun e => hgr e.symm) (by have e' : w.heap.size ≤ g := hg; have := hS.lt; intro e; have e2 : m = g := e; omega)
      replace hx := Fro.trans_new hx hf5 (fun _ e => by subst e; exact hg)
      refine WL_val rfl rfl rfl (st_as (v := .slice _ _ _) rfl) ?_
      refine WL_nil ?_
      refine Blo_n ?_
      refine rnd_end ?_ c9 ?_ ?_
      · repeat (first | exact agree_in rfl rfl (agree_refl _ _) | exact agree_refl _ _ | refine agree_in rfl rfl ?_ | refine agree_upd rfl ?_)
      · omega
      · have hne : r ≠ g5 := by rcases hg5 with e | e <;> omega
        refine ⟨a :: done, .slice a5 (td.length + 1) cap5, g5, c9, td ++ [a], rfl, rfl, hR, ?_, fun q => ?_, by have := hx.size; rcases hg5 with e | e <;> omega, fun e => hne e.symm, hx, by rw [List.length_append, List.length_singleton]; omega⟩
        · rw [List.length_append, List.length_singleton, List.map_append]
          exact hT5
        · rw [List.mem_append, List.mem_singleton, List.mem_cons, htd q]
          exact or_comm
    · refine WL_val rfl rfl rfl (st_nextM rfl hrun) ?_
      refine WL_val rfl rfl rfl (st_extract rfl rfl) ?_
      refine WL_nil ?_
      refine W_seq ?_
      refine W_no rfl ?_
      refine W_exit ?_
      refine W_block ?_
      refine W_loop [4] [4, 6, 8, 19, 20, 21, 22, 23, 24, 25, 26, 27, 28, 29, 30, 31, 32, 33, 34, 35, 36, 37, 38, 39, 40, 41, 42, 43, 44, 45, 46, 47, 48, 49, 50, 51, 52, 53, 54, 55, 56, 57, 58, 59, 60, 61, 62] (fun m' vs w1 => ∃ (ks1 td : List Nat) (v : Value) (g : Nat), out (List.range N.length) ks1 + td.length = m' ∧ vs = [v] ∧ Clo N ks ks1 td ∧ SetAt w1 m mkI ks1 ∧ Own w1 3 1 v td.length (td.map mkI) g ∧ w.heap.size ≤ g ∧ Fro (· = m) w w1 ∧ m' ≤ 2 * N.length) ?_ ?_
      · have hle := out_le (List.range N.length) ks
        rw [List.length_range] at hle
        exact ⟨_, ks, td, _, g, rfl, rfl, Clo.start hlt (fun q => (htd q).trans ⟨fun h => hR.sub h, fun h => hall q h⟩), hR.set, hT, hg, hx.fro, by omega⟩
      · intro m5 vs w2 u hI
        obtain ⟨ks1, td, v, g, rfl, rfl, hC, hS1, hT, hg, hF, hM⟩ := hI
        obtain ⟨a0, cap0, rfl, hp0⟩ := hT.form
        refine W_seq ?_
        refine W_seq ?_
        refine W_region ?_
        refine WL_val rfl rfl rfl (st_mv (v := .slice _ _ _) rfl) ?_
        refine WL_val rfl rfl rfl (st_len Tryd.underlying86 rfl) ?_
        refine WL_val rfl rfl rfl (st_gtr rfl rfl) ?_
        refine WL_nil ?_
        refine W_cond rfl (fun h21 => ?_) (fun h21 => ?_)
        · have g21 := of_decide_eq_true h21
          refine W_skip ?_
          refine W_block ?_
          refine W_seq ?_
          have hpos : 0 < td.length := by omega
          obtain ⟨tdr, s, rfl⟩ : ∃ tdr s, td = tdr ++ [s] := by
            rcases List.eq_nil_or_concat td with h | ⟨tdr, s, h⟩
            · rw [h] at hpos; exact absurd hpos (by decide)
            · exact ⟨tdr, s, by rw [h, List.concat_eq_append]⟩
          have hlen : (tdr ++ [s]).length = tdr.length + 1 := by rw [List.length_append, List.length_singleton]
          obtain ⟨rfl, _, hcs⟩ := hT.cells hpos
          have hcell : _ := hcs tdr.length (mkI s) (by rw [List.map_append, List.getElem?_append_right (by simp)]; simp)
          rw [show 0 + tdr.length = 0 + tdr.length * 1 by omega] at hcell
          obtain ⟨hcap, hTc⟩ := hT.cut (k := tdr.length) (by omega)
          rw [Nat.mul_one, List.map_append, List.take_append_of_le_length (by simp), List.take_of_length_le (by simp)] at hTc
          have hs : s < N.length := hC.lt s (hC.sub s (by simp))
          obtain ⟨M9, hM9⟩ : ∃ M, M = out (List.range N.length) ks1 + tdr.length := ⟨_, rfl⟩
          refine W_region ?_
          refine WL_val rfl rfl rfl (st_mv (v := .slice _ _ _) rfl) ?_
          refine WL_val rfl rfl rfl (st_mv (v := .slice _ _ _) rfl) ?_
          refine WL_val rfl rfl rfl (st_len Tryd.underlying86 rfl) ?_
          refine WL_val rfl rfl rfl (st_sub rfl rfl (by omega) (by omega)) ?_
          refine WL_val rfl rfl rfl (st_indexAddr (o := 0) (i := tdr.length) Tryd.underlying86 ti3 rfl rfl (by exact vint (by omega)) (by omega)) ?_
          refine WL_val rfl rfl rfl (st_load ⟨_, Tryd.underlying3, rfl⟩ rfl hcell) ?_
          refine WL_val rfl rfl rfl (st_as (v := .int _ _) rfl) ?_
          refine WL_nil ?_
          refine W_seq ?_
          refine W_region ?_
          refine WL_val rfl rfl rfl (st_mv (v := .slice _ _ _) rfl) ?_
          refine WL_val rfl rfl rfl (st_mv (v := .slice _ _ _) rfl) ?_
          refine WL_val rfl rfl rfl (st_len Tryd.underlying86 rfl) ?_
          refine WL_val rfl rfl rfl (st_sub rfl rfl (by omega) (by omega)) ?_
          refine WL_val rfl rfl rfl (st_slice0 (b := tdr.length) Tryd.underlying86 ti3 rfl (fun _ h => by cases h; rfl) (.inr (congrArg some (vint (by omega)))) hcap) ?_
          refine WL_val rfl rfl rfl (st_as (v := .slice _ _ _) rfl) ?_
          refine WL_nil ?_
          refine W_seq ?_
          have hal := hfew s
          obtain ⟨gsb, cap, aA, cA, hc1, hc2, hc3⟩ := hN.look hs
          have hd1 := cell_map hS hF hc1
          have hd2 := cell_map hS hF hc2
          refine W_region ?_
          refine WL_val rfl rfl rfl (st_mv (v := .pointer _) rfl) ?_
          refine WL_val rfl rfl rfl (st_nilCheck rfl) ?_
          refine WL_val rfl rfl rfl (st_fieldAddr (off := 0) Tryd.underlying64 rfl rfl ti62 rfl) ?_
          refine WL_val rfl rfl rfl (st_load ⟨_, Tryd.underlying62, rfl⟩ rfl hd1) ?_
          refine WL_val rfl rfl rfl (st_mv (v := .int _ _) rfl) ?_
          refine WL_val rfl rfl rfl (st_indexAddr (o := 0) (i := s) Tryd.underlying62 ti87 rfl rfl rfl hs) ?_
          refine WL_val rfl rfl rfl (st_load ⟨_, Tryd.underlying87, rfl⟩ rfl hd2) ?_
          refine WL_val rfl rfl rfl (st_len Tryd.underlying87 rfl) ?_
          refine WL_val rfl rfl rfl (st_mv (v := (.int .i64 0)) rfl) ?_
          refine WL_nil ?_
          refine W_block ?_
          refine W_loop [4, 41] [4, 8, 41, 42, 43, 44, 45, 46, 47, 48, 49, 50, 51, 52, 53, 54, 55, 56, 57, 58, 59, 60, 61, 62] (fun m' vs w1 => ∃ (j : Nat) (ks1 td1 : List Nat) (v1 : Value) (g : Nat), j + m' = (arws N s).length ∧ vs = [v1, .int .i64 (j : Int)] ∧ CloA N ks ks1 td1 s j ∧ SetAt w1 m mkI ks1 ∧ Own w1 3 1 v1 td1.length (td1.map mkI) g ∧ w.heap.size ≤ g ∧ Fro (· = m) w w1 ∧ out (List.range N.length) ks1 + td1.length ≤ M9) ?_ ?_
          · exact ⟨(arws N s).length, 0, ks1, tdr, _, g, by omega, rfl, hC.take, hS1, hTc, hg, hF, by rw [← hM9]; exact Nat.le_refl _⟩
          · intro m9 vs w3 u hI
            obtain ⟨j, ks1, td1, v1, g, hj0, rfl, hC, hS1, hT, hg, hF, hM⟩ := hI
            obtain ⟨a1, cap1, rfl, hp1⟩ := hT.form
            have hle2 := out_le (List.range N.length) ks1
            rw [List.length_range] at hle2
            refine W_seq ?_
            refine W_region ?_
            refine WL_val rfl rfl rfl (st_lss rfl rfl) ?_
            refine WL_nil ?_
            refine W_seq ?_
            refine W_cond rfl (fun h42 => ?_) (fun h42 => ?_)
            · have g42 := of_decide_eq_true h42
              refine W_skip ?_
              refine W_seq ?_
              refine W_block ?_
              refine W_seq ?_
              have hj : j < (arws N s).length := by omega
              obtain ⟨gA, cs, hgA, hcA, fv, rfl, hone, _⟩ := hc3 j hj
              have hcA := hcA.map hS hF
              refine W_region ?_
              refine WL_val rfl rfl rfl (st_indexAddr Tryd.underlying87 ti90 rfl hgA rfl hj) ?_
              refine WL_val rfl rfl rfl (st_loada ⟨_, Tryd.underlying90, rfl⟩ ti90 rfl hcA rfl) ?_
              refine WL_ef (ef_alloc ti90) rfl rfl rfl ?_
              rintro _ w5 ⟨b4, rfl, hl8, hb8, hx6⟩
              refine WL_su (su_storea ti90 rfl hb8 rfl rfl (Nat.le_of_ble_eq_true rfl) (one3 hone)) rfl rfl ?_
              rintro w7 ⟨hnb, hf8⟩
              have hx9 : Ext w3 w7 := hx6.trans_new hf8 (fun _ h => by subst h; exact hl8)
              clear hb8
              have hb8 : Blk _ _ _ [_, _, _] := hnb
              clear hnb
              replace hF := hF.ext hx9
              replace hS1 := hS1.ext hx9
              replace hT := hT.ext hx9
              refine WL_nil ?_
              refine W_seq ?_
              refine W_region ?_
              refine WL_val rfl rfl rfl (st_fieldAddr (off := 1) Tryd.underlying90 rfl rfl ti4 rfl) ?_
              refine WL_val rfl rfl rfl (st_load ⟨_, Tryd.underlying4, rfl⟩ rfl (hb8.cell 1 rfl)) ?_
              refine WL_val rfl rfl rfl (st_mv (v := .bool _) rfl) ?_
              refine WL_split 47 rfl (fun h47 => ?_) (fun h47 => ?_)
              · have g47 := h47
                refine WL_valg rfl rfl rfl (congrArg Value.bool h47) rfl rfl (st_mv (v := .map _) rfl) ?_
                refine WL_valg rfl rfl rfl (congrArg Value.bool h47) rfl rfl (st_fieldAddr (off := 0) Tryd.underlying90 rfl rfl ti3 rfl) ?_
                refine WL_valg rfl rfl rfl (congrArg Value.bool h47) rfl rfl (st_load ⟨_, Tryd.underlying3, rfl⟩ rfl (hb8.cell 0 rfl)) ?_
                refine WL_valg rfl rfl rfl (congrArg Value.bool h47) rfl rfl (st_lookup keyS Tryd.underlying67 ti4 hS1 rfl rfl) ?_
                refine WL_valg rfl rfl rfl (congrArg Value.bool h47) rfl rfl (st_not rfl) ?_
                refine WL_val rfl rfl rfl (st_pk_t (v := .bool _) (congrArg Value.bool h47) rfl) ?_
                refine WL_nil ?_
                refine W_cond rfl (fun h53 => ?_) (fun h53 => ?_)
                · have g53 := of_decide_eq_false (not_t h53)
                  refine W_seq ?_
                  refine W_region ?_
                  refine WL_val rfl rfl rfl (st_mv (v := .map _) rfl) ?_
                  refine WL_val rfl rfl rfl (st_fieldAddr (off := 0) Tryd.underlying90 rfl rfl ti3 rfl) ?_
                  refine WL_val rfl rfl rfl (st_load ⟨_, Tryd.underlying3, rfl⟩ rfl (hb8.cell 0 rfl)) ?_
                  refine WL_su (su_mapUpdate keyS Tryd.underlying67 hS1 rfl rfl rfl) rfl rfl ?_
                  rintro w12 ⟨hS2, hf12⟩
                  rw [if_neg (of_decide_eq_false (not_t h53))] at hS2
                  have hT2 := hT.fro hf12 (fun e => by have e' : g = m := e; omega)
                  have hb8' := hb8.fro hf12 (fun e => hb8.ne_set hS1 e)
                  have hF2 := hF.trans hf12
                  refine WL_nil ?_
                  refine W_region ?_
                  refine WL_val rfl rfl rfl (st_mv (v := .slice _ _ _) rfl) ?_
                  refine WL_val rfl rfl rfl (st_fieldAddr (off := 0) Tryd.underlying90 rfl rfl ti3 rfl) ?_
                  refine WL_val rfl rfl rfl (st_load ⟨_, Tryd.underlying3, rfl⟩ rfl (hb8'.cell 0 rfl)) ?_
                  refine WL_ef (ef_buildSlice (len := 1) (cs := [mkI (arws N s)[j].to]) Tryd.underlying86 ti3 (by decide) (by decide) rfl) rfl rfl rfl ?_
                  rintro _ w13 ⟨gn, rfl, hgn, hbn, hx13⟩
                  replace hS2 := hS2.ext hx13
                  replace hT2 := hT2.ext hx13
                  replace hF2 := hF2.ext hx13
                  have hsz13 := hF2.size
                  refine WL_ef (ef_append (news := [mkI (arws N s)[j].to]) Tryd.underlying86 Tryd.underlying86 isSl_slice ti3 rfl rfl hT2 rfl (src_slice (by rfl) (.inr ⟨gn, 0, rfl, hbn.cells⟩) (fun h => by cases h)) rfl rfl (by omega) (by omega)) rfl rfl rfl ?_
                  rintro v5 w14 ⟨g5, hT5, hf5, hg5, _⟩
                  obtain ⟨a5, cap5, rfl, hp5⟩ := hT5.form
                  replace hS2 := hS2.fro hf5 (fun e => by have e' : m = g := e; omega)
                  replace hF2 := Fro.trans_new hF2 hf5 (fun _ e => by subst e; exact hg)
                  have hsz2 := hF2.size
                  refine WL_val rfl rfl rfl (st_as (v := .slice _ _ _) rfl) ?_
                  refine WL_nil ?_
                  refine W_region ?_
                  refine WL_val rfl rfl rfl (st_add rfl rfl (by omega) (by omega)) ?_
                  refine WL_val rfl rfl rfl (st_mv (v := .int _ _) rfl) ?_
                  refine WL_nil ?_
                  refine rnd_end ?_ (m9 - 1) ?_ ?_
                  · repeat (first | exact agree_in rfl rfl (agree_refl _ _) | exact agree_refl _ _ | refine agree_in rfl rfl ?_ | refine agree_upd rfl ?_)
                  · omega
                  · have hadd := hC.add hv hj (Option.isNone_iff_eq_none.1 h47)
                    have hod := out_drop (U := List.range N.length) (ks := ks1) (ks' := ks1 ++ [(arws N s)[j].to]) (range_mem (hv _ _ (List.getElem_mem hj))) (of_decide_eq_false (not_t h53)) (fun x => by rw [List.mem_append, List.mem_singleton]; exact or_comm)
                    refine ⟨j + 1, ks1 ++ [(arws N s)[j].to], td1 ++ [(arws N s)[j].to], .slice a5 (td1.length + 1) cap5, g5, by omega, vec2 rfl rfl, hadd, hS2, ?_, by rcases hg5 with e | e <;> omega, hF2, by rw [List.length_append, List.length_singleton]; omega⟩
                    rw [List.length_append, List.length_singleton, List.map_append]
                    exact hT5
                · have g53 := of_decide_eq_true (not_f h53)
                  refine W_skip ?_
                  refine W_region ?_
                  refine WL_val rfl rfl rfl (st_add rfl rfl (by omega) (by omega)) ?_
                  refine WL_val rfl rfl rfl (st_mv (v := .int _ _) rfl) ?_
                  refine WL_nil ?_
                  refine rnd_end ?_ (m9 - 1) ?_ ?_
                  · repeat (first | exact agree_in rfl rfl (agree_refl _ _) | exact agree_refl _ _ | refine agree_in rfl rfl ?_ | refine agree_upd rfl ?_)
                  · omega
                  · exact ⟨j + 1, ks1, td1, _, g, by omega, vec2 rfl rfl, hC.skip hj (fun _ => of_decide_eq_true (not_f h53)), hS1, hT, hg, hF, hM⟩
              · have g47 := h47
                refine WL_pass rfl rfl rfl (congrArg Value.bool h47) rfl rfl ?_
                refine WL_pass rfl rfl rfl (congrArg Value.bool h47) rfl rfl ?_
                refine WL_pass rfl rfl rfl (congrArg Value.bool h47) rfl rfl ?_
                refine WL_pass rfl rfl rfl (congrArg Value.bool h47) rfl rfl ?_
                refine WL_pass rfl rfl rfl (congrArg Value.bool h47) rfl rfl ?_
                refine WL_val rfl rfl rfl (st_pk_f (v := (.bool false)) (congrArg Value.bool h47) rfl) ?_
                refine WL_nil ?_
                refine W_no rfl ?_
                refine W_skip ?_
                refine W_region ?_
                refine WL_val rfl rfl rfl (st_add rfl rfl (by omega) (by omega)) ?_
                refine WL_val rfl rfl rfl (st_mv (v := .int _ _) rfl) ?_
                refine WL_nil ?_
                refine rnd_end ?_ (m9 - 1) ?_ ?_
                · repeat (first | exact agree_in rfl rfl (agree_refl _ _) | exact agree_refl _ _ | refine agree_in rfl rfl ?_ | refine agree_upd rfl ?_)
                · omega
                · exact ⟨j + 1, ks1, td1, _, g, by omega, vec2 rfl rfl, hC.skip hj (fun h => absurd (Option.isNone_iff_eq_none.2 h) (by rw [h47]; decide)), hS1, hT, hg, hF, hM⟩
            · have g42 := of_decide_eq_false h42
              refine W_exit ?_
              refine And.intro ?_ (Exists.intro (out (List.range N.length) ks1 + td1.length) (And.intro ?_ ?_))
              · repeat (first | exact agree_in rfl rfl (agree_refl _ _) | exact agree_refl _ _ | refine agree_in rfl rfl ?_ | refine agree_upd rfl ?_)
              · omega
              · exact ⟨ks1, td1, _, g, rfl, rfl, hC.done (by omega), hS1, hT, hg, hF, by omega⟩
        · have g21 := of_decide_eq_false h21
          refine W_exit ?_
          refine qr0 ?_
          have htd : td = [] := List.length_eq_zero_iff.1 (by omega)
          subst htd
          exact ⟨rfl, ks1, hS1, hC.done, hF⟩
theorem Run.lt {N : NetL} {s q : Nat} {l : List UInt8} (r : Run N s l q) (hv : Val N) (hs : s < N.length) : q < N.length := by
  cases r with
  | nil => exact hs
  | free _ ha _ => exact hv _ _ ha
  | take _ ha _ _ => exact hv _ _ ha
def Hit (ch : UInt8) (l : List Arw) (q : Nat) : Prop := ∃ a ∈ l, ∃ f, a.tk = some f ∧ f ch = true ∧ a.to = q
theorem Hit_take {ch : UInt8} {l : List Arw} {q j : Nat} (hj : j < l.length) : Hit ch (l.take (j + 1)) q ↔ Hit ch (l.take j) q ∨ ∃ f, l[j].tk = some f ∧ f ch = true ∧ l[j].to = q := by
  unfold Hit
  rw [List.take_succ_eq_append_getElem hj]
  constructor
  · rintro ⟨a, h1, h2⟩
    rcases List.mem_append.1 h1 with h1 | h1
    · exact .inl ⟨a, h1, h2⟩
    · rw [List.mem_singleton] at h1; subst h1; exact .inr h2
  · rintro (⟨a, h1, h2⟩ | h2)
    · exact ⟨a, List.mem_append_left _ h1, h2⟩
    · exact ⟨_, List.mem_append_right _ (List.mem_singleton.2 rfl), h2⟩
theorem mem_add {α : Type} [DecidableEq α] {a x : α} {l : List α} : (x ∈ if a ∈ l then l else l ++ [a]) ↔ x = a ∨ x ∈ l := by
  split
  · rename_i h
    exact ⟨.inr, fun h1 => h1.elim (fun e => e ▸ h) id⟩
  · rw [List.mem_append, List.mem_singleton]; exact or_comm
set_option maxHeartbeats 1000000 in
theorem step_ok (n base nb m : Nat) (N : NetL) (ks : List Nat) (ch : UInt8) (w : World) (hN : Net w n base nb N) (hS : SetAt w m mkI ks) (hn : n ≤ base) (hbs : base ≤ w.heap.size) (hv : Val N) (hlt : ∀ q ∈ ks, q < N.length) (hNl : N.length ≤ 500000000) (hfew : Few 0 N) :
    Fun Tryd.prog 33 [.pointer (some ⟨nb, 0, none⟩), .map (some m), .int .u8 (ch.toNat : Int)] w (fun r w' => ∃ m' ks', r = .map (some m') ∧ w.heap.size ≤ m' ∧ SetAt w' m' mkI ks' ∧ (∀ q, q ∈ ks' ↔ Stp N (· ∈ ks) ch q) ∧ (∀ q ∈ ks', q < N.length) ∧ Ext w w') := by
  have hml := hS.lt
  refine fun1 Tryd.func33 rfl (by kernel_rfl) rfl rfl rfl ?_
  refine W_seq ?_
  refine W_region ?_
  refine WL_val rfl rfl rfl (st_as (v := (.map none)) rfl) ?_
  refine WL_nil ?_
  refine W_seq ?_
  refine W_region ?_
  refine WL_ef (ef_makeMap mkI) rfl rfl rfl ?_
  rintro _ w2 ⟨mo, rfl, hmo, hO, hx2⟩
  refine WL_val rfl rfl rfl (st_as (v := .map _) rfl) ?_
  refine WL_nil ?_
  refine W_seq ?_
  refine W_seq ?_
  refine W_region ?_
  refine WL_val rfl rfl rfl (st_mv (v := .map _) rfl) ?_
  refine WL_ef (ef_rangeM Tryd.underlying67 rfl (hS.ext hx2)) rfl rfl rfl ?_
  rintro _ w3 ⟨r, rfl, hrl, hR, hx3⟩
  have hmor : mo < r := Nat.lt_of_lt_of_le hO.lt hrl
  replace hO := hO.ext hx3
  have hx := hx2.trans hx3
  refine WL_nil ?_
  refine W_block ?_
  refine W_loop [] [8, 10, 14, 15, 16, 17, 18, 19, 20, 21, 22, 23, 24, 25, 26, 27, 28, 29, 30, 31, 32, 33, 34, 35, 36, 37, 38, 39, 40, 41, 42] (fun m' vs w1 => ∃ (done os : List Nat) (c : Nat), c = m' ∧ vs = [] ∧ RngAt w1 r m mkI ks done c ∧ SetAt w1 mo mkI os ∧ (∀ q, q ∈ os ↔ ∃ s ∈ done, Hit ch (arws N s) q) ∧ Ext w w1) ?_ ?_
  · exact ⟨ks.length, [], [], _, rfl, rfl, hR, hO, fun q => by simp, hx⟩
  · intro m' vs w1 u hI
    obtain ⟨done, os, c, rfl, rfl, hR, hO, hos, hx⟩ := hI
    refine W_seq ?_
    refine W_region ?_
    rcases (hR.next keyS).symm with ⟨a, c9, w3n, ha, hna, hc9, hrun, hR3, hF3, hsz3, hent⟩ | ⟨hall, hrun⟩
    · refine WL_val rfl rfl rfl (st_nextM rfl hrun) ?_
      replace hO := hO.fro hF3 (fun e => by have e' : mo = r := e; omega)
      replace hx := Fro.trans_new hx hF3 (fun _ e => by subst e; omega)
      refine WL_val rfl rfl rfl (st_extract rfl rfl) ?_
      refine WL_nil ?_
      refine W_seq ?_
      refine W_yes rfl ?_
      refine W_skip ?_
      refine W_block ?_
      refine W_seq ?_
      refine W_region ?_
      refine WL_val rfl rfl rfl (st_entryM rfl hent) ?_
      replace hR := hR3
      refine WL_val rfl rfl rfl (st_extract rfl rfl) ?_
      refine WL_val rfl rfl rfl (st_as (v := .int _ _) rfl) ?_
      refine WL_nil ?_
      refine W_seq ?_
      have hal := hfew a
      have hs : a < N.length := hlt a ha
      obtain ⟨gsb, cap, aA, cA, hc1, hc2, hc3⟩ := hN.look hs
      have hd1 := Ext.cell hx hc1
      have hd2 := Ext.cell hx hc2
      refine W_region ?_
      refine WL_val rfl rfl rfl (st_mv (v := .pointer _) rfl) ?_
      refine WL_val rfl rfl rfl (st_nilCheck rfl) ?_
      refine WL_val rfl rfl rfl (st_fieldAddr (off := 0) Tryd.underlying64 rfl rfl ti62 rfl) ?_
      refine WL_val rfl rfl rfl (st_load ⟨_, Tryd.underlying62, rfl⟩ rfl hd1) ?_
      refine WL_val rfl rfl rfl (st_mv (v := .int _ _) rfl) ?_
      refine WL_val rfl rfl rfl (st_indexAddr (o := 0) (i := a) Tryd.underlying62 ti87 rfl rfl rfl hs) ?_
      refine WL_val rfl rfl rfl (st_load ⟨_, Tryd.underlying87, rfl⟩ rfl hd2) ?_
      refine WL_val rfl rfl rfl (st_len Tryd.underlying87 rfl) ?_
      refine WL_val rfl rfl rfl (st_mv (v := (.int .i64 0)) rfl) ?_
      refine WL_nil ?_
      refine W_block ?_
      refine W_loop [26] [10, 26, 27, 28, 29, 30, 31, 32, 33, 34, 35, 36, 37, 38, 39, 40, 41, 42] (fun m' vs w1 => ∃ (j : Nat) (os : List Nat), j + m' = (arws N a).length ∧ vs = [.int .i64 (j : Int)] ∧ SetAt w1 mo mkI os ∧ RngAt w1 r m mkI ks (a :: done) c9 ∧ (∀ q, q ∈ os ↔ (∃ s ∈ done, Hit ch (arws N s) q) ∨ Hit ch ((arws N a).take j) q) ∧ Ext w w1) ?_ ?_
      · exact ⟨(arws N a).length, 0, os, by omega, rfl, hO, hR, fun q => by rw [hos q]; simp [Hit], hx⟩
      · intro m6 vs w2 u hI
        obtain ⟨j, os, hj0, rfl, hO, hR, hos, hx⟩ := hI
        refine W_seq ?_
        refine W_region ?_
        refine WL_val rfl rfl rfl (st_lss rfl rfl) ?_
        refine WL_nil ?_
        refine W_seq ?_
        refine W_cond rfl (fun h27 => ?_) (fun h27 => ?_)
        · have g27 := of_decide_eq_true h27
          refine W_skip ?_
          refine W_seq ?_
          refine W_block ?_
          refine W_seq ?_
          have hj : j < (arws N a).length := by omega
          obtain ⟨gA, cs, hgA, hcA, fv, rfl, hone, hfv⟩ := hc3 j hj
          have hcA := hcA.ext hx
          refine W_region ?_
          refine WL_val rfl rfl rfl (st_indexAddr Tryd.underlying87 ti90 rfl hgA rfl hj) ?_
          refine WL_val rfl rfl rfl (st_loada ⟨_, Tryd.underlying90, rfl⟩ ti90 rfl hcA rfl) ?_
          refine WL_ef (ef_alloc ti90) rfl rfl rfl ?_
          rintro _ w4 ⟨b3, rfl, hl10, hb10, hx5⟩
          refine WL_su (su_storea ti90 rfl hb10 rfl rfl (Nat.le_of_ble_eq_true rfl) (one3 hone)) rfl rfl ?_
          rintro w6 ⟨hnb, hf7⟩
          have hx8 : Ext w2 w6 := hx5.trans_new hf7 (fun _ h => by subst h; exact hl10)
          clear hb10
          have hb10 : Blk _ _ _ [_, _, _] := hnb
          clear hnb
          replace hx := hx.ext hx8
          replace hO := hO.ext hx8
          replace hR := hR.ext hx8
          refine WL_nil ?_
          refine W_seq ?_
          refine W_region ?_
          refine WL_val rfl rfl rfl (st_fieldAddr (off := 1) Tryd.underlying90 rfl rfl ti4 rfl) ?_
          refine WL_val rfl rfl rfl (st_load ⟨_, Tryd.underlying4, rfl⟩ rfl (hb10.cell 1 rfl)) ?_
          refine WL_val rfl rfl rfl (st_not rfl) ?_
          refine WL_val rfl rfl rfl (st_mv (v := .bool _) rfl) ?_
          refine WL_split 33 rfl (fun h33 => ?_) (fun h33 => ?_)
          · obtain ⟨fn, hfn⟩ : ∃ fn, (arws N a)[j].tk = some fn := by
              cases h : (arws N a)[j].tk with
              | none => rw [h] at h33; cases h33
              | some fn => exact ⟨fn, rfl⟩
            rw [hfn] at hfv
            obtain ⟨kf, bf, rfl, hrun9⟩ := TakesAt.run (TakesAt.off (X := fun _ => True) hfv hx (fun _ e => e.elim) trivial trivial)
            refine WL_valg rfl rfl rfl (congrArg Value.bool h33) rfl rfl (st_fieldAddr (off := 2) Tryd.underlying90 rfl rfl ti88 rfl) ?_
            refine WL_valg rfl rfl rfl (congrArg Value.bool h33) rfl rfl (st_load ⟨_, Tryd.underlying88, rfl⟩ rfl (hb10.cell 2 rfl)) ?_
            refine WL_valg rfl rfl rfl (congrArg Value.bool h33) rfl rfl (st_mv (v := .int _ _) rfl) ?_
            refine WL_callg rfl rfl rfl (congrArg Value.bool h33) rfl rfl (hrun9 ch) (ent_val rfl rfl) ?_
            rintro _ w9 ⟨rfl, hx10⟩
            replace hx := hx.ext hx10
            replace hO := hO.ext hx10
            replace hR := hR.ext hx10
            replace hb10 := hb10.ext hx10
            refine WL_val rfl rfl rfl (st_pk_t (v := .bool _) (congrArg Value.bool h33) rfl) ?_
            refine WL_nil ?_
            refine W_cond rfl (fun h38 => ?_) (fun h38 => ?_)
            · have g38 := h38
              refine W_region ?_
              refine WL_val rfl rfl rfl (st_mv (v := .map _) rfl) ?_
              refine WL_val rfl rfl rfl (st_fieldAddr (off := 0) Tryd.underlying90 rfl rfl ti3 rfl) ?_
              refine WL_val rfl rfl rfl (st_load ⟨_, Tryd.underlying3, rfl⟩ rfl (hb10.cell 0 rfl)) ?_
              refine WL_su (su_mapUpdate keyS Tryd.underlying67 hO rfl rfl rfl) rfl rfl ?_
              rintro w12 ⟨hO2, hf12⟩
              have hR2 := hR.fro hf12 (fun e => by have e' : r = mo := e; omega) (fun e => by have e' : m = mo := e; omega)
              have hx2 := Fro.trans_new hx hf12 (fun _ e => by subst e; exact hmo)
              refine WL_nil ?_
              refine W_region ?_
              refine WL_val rfl rfl rfl (st_add rfl rfl (by omega) (by omega)) ?_
              refine WL_val rfl rfl rfl (st_mv (v := .int _ _) rfl) ?_
              refine WL_nil ?_
              refine rnd_end ?_ (m6 - 1) ?_ ?_
              · repeat (first | exact agree_in rfl rfl (agree_refl _ _) | exact agree_refl _ _ | refine agree_in rfl rfl ?_ | refine agree_upd rfl ?_)
              · omega
              · refine ⟨j + 1, _, by omega, vec1 rfl, hO2, hR2, fun q => ?_, hx2⟩
                rw [Hit_take hj, hfn, mem_add, hos q]
                constructor
                · rintro (h | h | h)
                  · exact .inr (.inr ⟨fn, rfl, h38, h.symm⟩)
                  · exact .inl h
                  · exact .inr (.inl h)
                · rintro (h | h | ⟨f, h1, h2, h3⟩)
                  · exact .inr (.inl h)
                  · exact .inr (.inr h)
                  · exact .inl h3.symm
            · have g38 := h38
              refine W_skip ?_
              refine W_region ?_
              refine WL_val rfl rfl rfl (st_add rfl rfl (by omega) (by omega)) ?_
              refine WL_val rfl rfl rfl (st_mv (v := .int _ _) rfl) ?_
              refine WL_nil ?_
              refine rnd_end ?_ (m6 - 1) ?_ ?_
              · repeat (first | exact agree_in rfl rfl (agree_refl _ _) | exact agree_refl _ _ | refine agree_in rfl rfl ?_ | refine agree_upd rfl ?_)
              · omega
              · exact ⟨j + 1, os, by omega, vec1 rfl, hO, hR, fun q => by rw [Hit_take hj, hos q, hfn]; exact or_congr Iff.rfl ⟨.inl, fun h => h.elim id (fun ⟨f, h1, h2, _⟩ => by injection h1 with h1; subst h1; rw [h38] at h2; cases h2)⟩, hx⟩
          · skip
            refine WL_pass rfl rfl rfl (congrArg Value.bool h33) rfl rfl ?_
            refine WL_pass rfl rfl rfl (congrArg Value.bool h33) rfl rfl ?_
            refine WL_pass rfl rfl rfl (congrArg Value.bool h33) rfl rfl ?_
            refine WL_pass rfl rfl rfl (congrArg Value.bool h33) rfl rfl ?_
            refine WL_val rfl rfl rfl (st_pk_f (v := (.bool false)) (congrArg Value.bool h33) rfl) ?_
            refine WL_nil ?_
            refine W_no rfl ?_
            refine W_skip ?_
            refine W_region ?_
            refine WL_val rfl rfl rfl (st_add rfl rfl (by omega) (by omega)) ?_
            refine WL_val rfl rfl rfl (st_mv (v := .int _ _) rfl) ?_
            refine WL_nil ?_
            refine rnd_end ?_ (m6 - 1) ?_ ?_
            · repeat (first | exact agree_in rfl rfl (agree_refl _ _) | exact agree_refl _ _ | refine agree_in rfl rfl ?_ | refine agree_upd rfl ?_)
            · omega
            · exact ⟨j + 1, os, by omega, vec1 rfl, hO, hR, fun q => by rw [Hit_take hj, hos q]; exact or_congr Iff.rfl ⟨.inl, fun h => h.elim id (fun ⟨f, h1, _⟩ => by rw [h1] at h33; cases h33)⟩, hx⟩
        · have g27 := of_decide_eq_false h27
          refine W_exit ?_
          refine And.intro ?_ (Exists.intro c9 (And.intro ?_ ?_))
          · repeat (first | exact agree_in rfl rfl (agree_refl _ _) | exact agree_refl _ _ | refine agree_in rfl rfl ?_ | refine agree_upd rfl ?_)
          · omega
          · exact ⟨a :: done, os, c9, rfl, rfl, hR, hO, fun q => by
              rw [hos q, List.take_of_length_le (by omega)]
              constructor
              · rintro (⟨s, h1, h2⟩ | h)
                · exact ⟨s, List.mem_cons_of_mem _ h1, h2⟩
                · exact ⟨a, List.mem_cons_self, h⟩
              · rintro ⟨s, h1, h2⟩
                rcases List.mem_cons.1 h1 with rfl | h1
                · exact .inr h2
                · exact .inl ⟨s, h1, h2⟩, hx⟩
    · refine WL_val rfl rfl rfl (st_nextM rfl hrun) ?_
      refine WL_val rfl rfl rfl (st_extract rfl rfl) ?_
      refine WL_nil ?_
      refine W_seq ?_
      refine W_no rfl ?_
      refine W_exit ?_
      refine W_seq ?_
      refine W_region ?_
      refine WL_val rfl rfl rfl (st_mv (v := .pointer _) rfl) ?_
      refine WL_val rfl rfl rfl (st_mv (v := .map _) rfl) ?_
      refine WL_call rfl rfl rfl (closure_ok n base nb mo N os _ (hN.ext hx) hO hv (fun q hq => by obtain ⟨s, _, a, h2, _, _, _, rfl⟩ := (hos q).1 hq; exact hv _ _ h2) hNl hfew) (ent_go rfl) ?_
      rintro _ w11 ⟨rfl, ks', hO2, hk2, hx12⟩
      refine WL_nil ?_
      refine W_seq ?_
      refine W_region ?_
      refine WL_val rfl rfl rfl (st_mv (v := .map _) rfl) ?_
      refine WL_val rfl rfl rfl (st_as (v := .map _) rfl) ?_
      refine WL_nil ?_
      refine W_ret ?_
      refine qr1 ?_
      refine ⟨mo, ks', rfl, hmo, hO2, fun q => ?_, fun q hq => ?_, Fro.trans_new hx hx12 (fun _ e => by subst e; exact hmo)⟩
      · rw [hk2]
        unfold Stp
        constructor
        · rintro ⟨t, h1, h2⟩
          obtain ⟨s, h3, a, h4, f, h5, h6, rfl⟩ := (hos t).1 h1
          exact ⟨s, hR.sub h3, a, h4, f, h5, h6, h2⟩
        · rintro ⟨s, h3, a, h4, f, h5, h6, h2⟩
          exact ⟨a.to, (hos _).2 ⟨s, hall s h3, a, h4, f, h5, h6, rfl⟩, h2⟩
      · obtain ⟨t, h1, h2⟩ := (hk2 q).1 hq
        obtain ⟨s, h3, a, h4, _, _, _, rfl⟩ := (hos t).1 h1
        exact h2.lt hv (hv _ _ h4)
end Go.Proofs.YtndfhicdabdafaaDoor
