/- Walk of TopGlobsBelow. -/
import Derived.Test.YtndfhicdabdafaaDoorX
import Derived.Test.YtndfhicdabdafaaDoorY
import Derived.Test.YtndfhicdabdafaaDoorC21
namespace Go.Proofs.YtndfhicdabdafaaDoor
open Go Go.RowKit

theorem top_m {rt dr : Bool} {ps : List Part} {t : ByteArray} {bg bh : Bool} {eg eh : Int} (h1 : checkG ⟨rt, dr, ps⟩ = 0) (h2 : checkG ⟨true, false, hpsL rt dr ps⟩ = 0) (hg : (checkG ⟨rt, dr, ps⟩ ≠ 0 ∧ bg = false ∧ eg = checkG ⟨rt, dr, ps⟩) ∨ (checkG ⟨rt, dr, ps⟩ = 0 ∧ checkPath t ≠ 0 ∧ bg = false ∧ eg = checkPath t) ∨ (checkG ⟨rt, dr, ps⟩ = 0 ∧ checkPath t = 0 ∧ eg = 0 ∧ (bg = true ↔ FitS rt ps t (!dr) dr)))
    (hh : (checkG ⟨true, false, hpsL rt dr ps⟩ ≠ 0 ∧ bh = false ∧ eh = checkG ⟨true, false, hpsL rt dr ps⟩) ∨ (checkG ⟨true, false, hpsL rt dr ps⟩ = 0 ∧ checkPath t ≠ 0 ∧ bh = false ∧ eh = checkPath t) ∨ (checkG ⟨true, false, hpsL rt dr ps⟩ = 0 ∧ checkPath t = 0 ∧ eh = 0 ∧ (bh = true ↔ FitS true (hpsL rt dr ps) t (!false) false))) : bg = bh ∧ eg = eh := by
  rcases hg with hg | hg | ⟨_, hp, hg1, hg2⟩
  · exact absurd h1 hg.1
  · rcases hh with hh | hh | hh
    · exact absurd h2 hh.1
    · exact ⟨by rw [hg.2.2.1, hh.2.2.1], by rw [hg.2.2.2, hh.2.2.2]⟩
    · exact absurd hh.2.1 hg.2.1
  · rcases hh with hh | hh | ⟨_, _, hh1, hh2⟩
    · exact absurd h2 hh.1
    · exact absurd hp hh.2.1
    · refine ⟨Bool.eq_iff_iff.2 ?_, by rw [hg1, hh1]⟩
      rw [hg2, hh2, FitS_iff, FitS_iff]
      exact (hps_fit rt dr ps (byts t) (noslash hp)).symm
theorem top_b {rt dr : Bool} {ps : List Part} {t : ByteArray} {bg bh : Bool} {eg eh : Int} (h1 : checkG ⟨rt, dr, ps⟩ = 0) (h2 : checkG ⟨true, false, hpsL rt dr ps⟩ = 0) (hg : (checkG ⟨rt, dr, ps⟩ ≠ 0 ∧ bg = false ∧ eg = checkG ⟨rt, dr, ps⟩) ∨ (checkG ⟨rt, dr, ps⟩ = 0 ∧ checkPath t ≠ 0 ∧ bg = false ∧ eg = checkPath t) ∨ (checkG ⟨rt, dr, ps⟩ = 0 ∧ checkPath t = 0 ∧ eg = 0 ∧ (bg = true ↔ BelL rt dr (LP ps) (byts t))))
    (hh : (checkG ⟨true, false, hpsL rt dr ps⟩ ≠ 0 ∧ bh = false ∧ eh = checkG ⟨true, false, hpsL rt dr ps⟩) ∨ (checkG ⟨true, false, hpsL rt dr ps⟩ = 0 ∧ checkPath t ≠ 0 ∧ bh = false ∧ eh = checkPath t) ∨ (checkG ⟨true, false, hpsL rt dr ps⟩ = 0 ∧ checkPath t = 0 ∧ eh = 0 ∧ (bh = true ↔ BelL true false (LP (hpsL rt dr ps)) (byts t)))) : bg = bh ∧ eg = eh := by
  rcases hg with hg | hg | ⟨_, hp, hg1, hg2⟩
  · exact absurd h1 hg.1
  · rcases hh with hh | hh | hh
    · exact absurd h2 hh.1
    · exact ⟨by rw [hg.2.2.1, hh.2.2.1], by rw [hg.2.2.2, hh.2.2.2]⟩
    · exact absurd hh.2.1 hg.2.1
  · rcases hh with hh | hh | ⟨_, _, hh1, hh2⟩
    · exact absurd h2 hh.1
    · exact absurd hp hh.2.1
    · refine ⟨Bool.eq_iff_iff.2 ?_, by rw [hg1, hh1]⟩
      rw [hg2, hh2]
      exact (hps_bel rt dr ps (byts t) (noslash hp)).symm
theorem st_vb {P : Program} {o : Oper} {e : Env} {w w' : World} {a b : Bool} (h : a = b) (hs : St P o e w (.bool a) w') : St P o e w (.bool b) w' := by subst h; exact hs
set_option maxHeartbeats 2000000 in
theorem top_ok (rt dr : Bool) (ps : List Part) (n : Nat) (v : Value) (t d : ByteArray) (m0 : Int) (w : World) (hm : w.cell? ⟨0, 0, none⟩ = some (.int .i64 m0)) (hn : n ≤ w.heap.size) (hps : PartsAt (· < n) w v ps) (hsz : szL ps ≤ 2000000) (hts : t.size ≤ 1099511627) (hds : d.size ≤ 1099511627) :
    Fun Tryd.prog 3 [.agg #[.bool rt, .bool dr, v], .string t, .string d] w (fun r w' => r = .bool true ∧ Ext w w') := by
  obtain ⟨a, cp, rfl, hpl0⟩ := hps.form
  have hx := Ext.refl w
  have hc : cntP ps ≤ 4611686018427387904 := by have := cntP_sz ps; omega
  have hl : (printL false ps).length ≤ 1000000000 := by have := printL_sz ps false; omega
  have htx : ∀ p ∈ ps, p.text.size ≤ 1099511627776 := fun p hp => by have := text_sz hp; omega
  have hnst : nstL ps ≤ 400000000 := by have := nstL_sz ps; omega
  refine fun1 Tryd.func3 rfl (by kernel_rfl) rfl rfl rfl ?_
  refine W_seq ?_
  refine W_region ?_
  refine WL_ef (ef_box (cs := [_, _, _]) rfl) rfl rfl rfl ?_
  rintro _ w2 ⟨b1, rfl, hl3, hb3, hx3⟩
  replace hx := hx.ext hx3
  replace hps := hps.ext hx3
  refine WL_val rfl rfl rfl (st_as (v := (.bool false)) rfl) ?_
  refine WL_nil ?_
  refine W_seq ?_
  refine W_seq ?_
  refine W_region ?_
  refine WL_call rfl rfl rfl (landed_ok m0 _ (Ext.cell hx hm)) (ent_go rfl) ?_
  rintro _ w4 ⟨rfl, hx5⟩
  replace hx := hx.ext hx5
  replace hps := hps.ext hx5
  replace hb3 := hb3.ext hx5
  refine WL_val rfl rfl rfl (st_not rfl) ?_
  refine WL_nil ?_
  refine W_no rfl ?_
  refine W_skip ?_
  refine W_seq ?_
  refine W_seq ?_
  refine W_region ?_
  refine WL_val rfl rfl rfl (st_loada ⟨_, Tryd.underlying24, rfl⟩ ti24 rfl hb3.cells rfl) ?_
  refine WL_call rfl rfl rfl (CheckGlob_ok rt dr ps n _ _ (by have := hx.size; omega) hps hc hl htx) (ent_go rfl) ?_
  rintro _ w6 ⟨rfl, hx7⟩
  replace hx := hx.ext hx7
  replace hps := hps.ext hx7
  replace hb3 := hb3.ext hx7
  refine WL_val rfl rfl rfl (st_neq rfl rfl) ?_
  refine WL_nil ?_
  refine W_cond rfl (fun h17 => ?_) (fun h17 => ?_)
  · have g17 := of_decide_eq_true h17
    refine W_seq ?_
    refine W_region ?_
    refine WL_val rfl rfl rfl (st_as (v := (.bool true)) rfl) ?_
    refine WL_nil ?_
    refine W_ret ?_
    refine qr1 ?_
    exact ⟨rfl, hx⟩
  · have g17 := of_decide_eq_false h17
    refine W_skip ?_
    refine W_seq ?_
    have hck : checkG ⟨rt, dr, ps⟩ = 0 := Decidable.not_not.1 g17
    refine W_held 8 7 (Ext w6) mixed rfl ?_
    intro w8 hcur hheap
    have hc0 := hcur
    have hb3l := hb3.lt
    obtain ⟨n5, hn5⟩ : ∃ x, x = w6.heap.size := ⟨_, rfl⟩
    have hn5w : w.heap.size ≤ n5 := by have := hx.size; omega
    refine WH_take 0 rfl rfl rfl rfl (by kernel_rfl) (fun _ _ _ h => np1 h) hcur (fun w' hx' => st_fieldAddr (off := 0) Tryd.underlying24 rfl rfl ti4 rfl) ?_
    refine WH_take 1 rfl rfl rfl rfl (by kernel_rfl) (fun _ _ _ h => np1 h) hcur (fun w' hx' => st_load ⟨_, Tryd.underlying4, rfl⟩ rfl (hx'.cell (hb3.cell 0 rfl))) ?_
    refine WH_take 2 rfl rfl rfl rfl (by kernel_rfl) (fun _ _ _ h => np1 h) hcur (fun w' hx' => st_fieldAddr (off := 2) Tryd.underlying24 rfl rfl ti22 rfl) ?_
    refine WH_take 3 rfl rfl rfl rfl (by kernel_rfl) (fun _ _ _ h => np1 h) hcur (fun w' hx' => st_load ⟨_, Tryd.underlying22, rfl⟩ rfl (hx'.cell (hb3.cell 2 rfl))) ?_
    refine WH_two (i := 4) (j := 6) (by kernel_rfl) ?_ ?_
    · refine WHi_call rfl rfl rfl rfl (wParts_ok _ ps (Nat.lt_succ_self _) n _ _ (by have := hx.size; have := hcur.size; omega) (hps.ext hcur)) (ent_go rfl) ?_
      rintro rv vA ⟨hxA, hP⟩
      obtain ⟨a1, c1, rfl⟩ := hP.len
      have hcA := hcur.trans hxA
      replace hcur := hcA
      refine ⟨fun _ => hcur, ?_⟩
      refine WH_take 5 rfl rfl rfl rfl (by kernel_rfl) (fun _ _ _ h => np1 h) hcur (fun w' hx' => st_build (pl := [(0, 1), (1, 1), (2, 1)]) (cs := [.bool rt, .bool false, .slice a1 ps.length c1]) ti24 Tryd.underlying24 (fun _ => by kernel_rfl) rfl) ?_
      refine WH_one (i := 6) (by kernel_rfl) ?_
      refine WHi_ef (ef_alloc ti24) rfl rfl rfl rfl ?_
      rintro _ vB ⟨b7, rfl, hl7, hb7, hx7⟩
      have hcB := hcA.trans hx7
      replace hcur := hcB
      refine ⟨fun _ => hcur, ?_⟩
      refine WH_one (i := 7) (by kernel_rfl) ?_
      have hl7w : w6.heap.size ≤ b7 := by have := hc0.size; have := hcA.size; omega
      refine WHi_su (su_storea ti24 rfl hb7 rfl rfl (Nat.le_of_ble_eq_true rfl) rfl) rfl rfl rfl ?_
      rintro vC ⟨hnb, hf7⟩
      have hcC := Fro.trans_new hcB hf7 (fun _ e => by subst e; exact hl7w)
      refine ⟨fun h => absurd rfl h, ?_⟩
      refine WH_done (by kernel_rfl) ?_
      have hPX : PX b7 n5 vC (.slice a1 ps.length c1) ps := (((POwn.px_after hP hxA.size (by omega : vA.heap.size ≤ b7)).mono (by have := hc0.size; omega)).ext hx7).fro hf7
      replace hb7 : Blk vC b7 24 [.bool rt, .bool false, .slice a1 ps.length c1] := hnb
      clear hnb
      have h5v : n5 ≤ vC.heap.size := by have := hcC.size; omega
      replace hx := hx.trans hcC
      replace hps := hps.ext hcC
      replace hb3 := hb3.ext hcC
      refine W_seq ?_
      refine W_seq ?_
      refine W_region ?_
      refine WL_val rfl rfl rfl (st_fieldAddr (off := 0) Tryd.underlying24 rfl rfl ti4 rfl) ?_
      refine WL_val rfl rfl rfl (st_load ⟨_, Tryd.underlying4, rfl⟩ rfl (hb3.cell 0 rfl)) ?_
      refine WL_val rfl rfl rfl (st_not rfl) ?_
      refine WL_nil ?_
      refine W_cond rfl (fun h26 => ?_) (fun h26 => ?_)
      · have hrt : rt = false := not_t h26
        subst hrt
        refine W_seq ?_
        refine W_region ?_
        refine WL_val rfl rfl rfl (st_fieldAddr (off := 0) Tryd.underlying24 rfl rfl ti4 rfl) ?_
        refine WL_su (su_store ti4 rfl hb7 (Nat.le_of_ble_eq_true rfl) rfl rfl) rfl rfl ?_
        rintro w9 ⟨hnb, hf10⟩
        have hb7 : Blk w9 b7 24 [.bool true, .bool false, .slice a1 ps.length c1] := hnb
        clear hnb
        replace hPX := hPX.fro hf10
        replace hx := Fro.trans_new hx hf10 (fun _ e => by subst e; omega)
        have hb3 := hb3.fro hf10 (fun e => by have e' : b1 = b7 := e; omega)
        replace hps := PartsAt.fro hps hf10 (fun k hk e => by have h1 : k < n := hk; have e' : k = b7 := e; omega)
        refine WL_nil ?_
        refine W_held 10 9 (Ext w9) mixed rfl ?_
        intro w11 hcur hheap
        have hc0 := hcur
        have hb7q := hb7.lt
        refine WH_take 0 rfl rfl rfl rfl (by kernel_rfl) (fun _ _ _ h => np1 h) hcur (fun w' hx' => st_build (pl := [(0, 1), (1, 1), (2, 1), (3, 1), (4, 1)]) (cs := [.int .i64 4, .string ⟨#[]⟩, .bool false, .slice none 0 0, .slice none 0 0]) ti33 Tryd.underlying33 (fun _ => by kernel_rfl) rfl) ?_
        refine WH_take 1 rfl rfl rfl rfl (by kernel_rfl) (fun _ _ _ h => np1 h) hcur (fun w' hx' => st_build (pl := [(0, 1), (1, 1), (2, 1), (3, 1), (4, 1)]) (cs := [.int .i64 1, .string ⟨#[47]⟩, .bool false, .slice none 0 0, .slice none 0 0]) ti33 Tryd.underlying33 (fun _ => by kernel_rfl) rfl) ?_
        refine WH_take 5 rfl rfl rfl rfl (by kernel_rfl) (fun _ _ _ h => np1 h) hcur (fun w' hx' => st_fieldAddr (off := 2) Tryd.underlying24 rfl rfl ti22 rfl) ?_
        refine WH_take 6 rfl rfl rfl rfl (by kernel_rfl) (fun _ _ _ h => np1 h) hcur (fun w' hx' => st_load ⟨_, Tryd.underlying22, rfl⟩ rfl (hx'.cell (hb7.cell 2 rfl))) ?_
        refine WH_one (i := 2) (by kernel_rfl) ?_
        refine WHi_ef (ef_buildSlice (len := 2) (cs := [.int .i64 4, .string ⟨#[]⟩, .bool false, .slice none 0 0, .slice none 0 0, .int .i64 1, .string ⟨#[47]⟩, .bool false, .slice none 0 0, .slice none 0 0]) Tryd.underlying22 ti33 (by decide) (by decide) (by kernel_rfl)) rfl rfl rfl rfl ?_
        rintro _ vA ⟨gp, rfl, hgp, hbp, hxA⟩
        have hcA := hcur.trans hxA
        replace hcur := hcA
        refine ⟨fun _ => hcur, ?_⟩
        refine WH_one (i := 3) (by kernel_rfl) ?_
        refine WHi_ef (ef_buildSlice (len := 2) (cs := [.slice none 0 0, .slice (some ⟨gp, 0, none⟩) 2 2]) Tryd.underlying31 ti22 (by decide) (by decide) rfl) rfl rfl rfl rfl ?_
        rintro _ vB ⟨gw, rfl, hgw, hbw, hxB⟩
        have hcB := hcA.trans hxB
        have hs1 := hc0.size
        have hs2 := hcA.size
        have hs3 := hcB.size
        have hgpl := (hbp.ext hxB).lt
        replace hcur := hcB
        refine ⟨fun _ => hcur, ?_⟩
        refine WH_one (i := 4) (by kernel_rfl) ?_
        refine WHi_call rfl rfl rfl rfl (wWays_ok w11.heap.size _ [[], [deepP, slashP]] _ (by have := hxA.size; have := hxB.size; omega) (ways_lit (hbp.ext hxB) hbw ⟨hgp, hgpl⟩ ⟨by have := hxA.size; omega, hbw.lt⟩)) (ent_go rfl) ?_
        rintro rv vC ⟨hxC, hP⟩
        obtain ⟨aW, cW, rfl⟩ := hP.len
        have hcC := hcB.trans hxC
        replace hcur := hcC
        refine ⟨fun _ => hcur, ?_⟩
        refine WH_one (i := 7) (by kernel_rfl) ?_
        have hPq : POwn w11.heap.size vC (.slice aW 1 cW) [waysP] := hP
        have hsC := hcC.size
        have hsC2 : w11.heap.size ≤ vC.heap.size := by have := hxA.size; have := hxB.size; have := hxC.size; omega
        obtain ⟨css, g, hown, hg0, hPs, hgr⟩ := hPq.prep hsC2
        have hpl := len_sz ps
        obtain ⟨cs1, hA0, hP0⟩ := (hPX.ext hc0).parts (by omega)
        have hxABC := (hxA.trans hxB).trans hxC
        have hA1 := hA0.ext hxABC
        have hP1 := PartsAll.fro hxABC (fun _ _ f => f) _ _ hP0
        obtain ⟨hc1, hc5, hco⟩ := hP1.cells
        refine WHi_ef (ef_append (v := .slice aW 1 cW) (xv := .slice a1 ps.length c1) (n := 1) (m := cs1.length) (news := cs1.flatten) Tryd.underlying22 Tryd.underlying22 isSl_slice ti33 rfl rfl hown rfl (by rw [← hc1]; rw [← hc1] at hA1; exact arr_src hA1 hc5) (flat_len _ hc5) (all_flat hco) (by omega) (by omega)) rfl rfl rfl rfl ?_
        rintro v5 vD ⟨g5, hown5, hf5, hg5, _⟩
        have hPD : PX b7 n5 vD v5 (waysP :: ps) := PX.app (ps := [waysP]) (qs := ps) (css := css) (ds := cs1) (g := g) (by omega) hc1 (by omega) (by omega) (by omega) (PartsAll.mono (fun k hk => ⟨by have := hk.1; omega, hk.2.1, hk.2.2, by have := hk.1; omega⟩) _ _ hPs)
          (PartsAll.mono (fun k hk => ⟨hk.1, by have := hk.2.1; omega, by have := hk.2.1; omega, hk.2.2⟩) _ _ hP1) hown5 hf5 hg5
        obtain ⟨a5, c5, rfl⟩ := hPD.len
        have hcD := Fro.trans_new hcC hf5 (fun _ e => by subst e; omega)
        replace hcur := hcD
        refine ⟨fun _ => hcur, ?_⟩
        refine WH_take 8 rfl rfl rfl rfl (by kernel_rfl) (fun _ _ _ h => np1 h) hcur (fun w' hx' => st_fieldAddr (off := 2) Tryd.underlying24 rfl rfl ti22 rfl) ?_
        refine WH_one (i := 9) (by kernel_rfl) ?_
        have hb7D := hb7.ext hcD
        refine WHi_su (su_store ti22 rfl hb7D (Nat.le_of_ble_eq_true rfl) rfl rfl) rfl rfl rfl ?_
        rintro vE ⟨hnb, hfE⟩
        refine ⟨fun h => absurd rfl h, ?_⟩
        refine WH_done (by kernel_rfl) ?_
        replace hb7 : Blk vE b7 24 [.bool true, .bool false, .slice a5 (waysP :: ps).length c5] := hnb
        clear hnb
        replace hPX := hPD.fro hfE
        replace hx := Fro.trans_new (hx.trans hcD) hfE (fun _ e => by subst e; omega)
        replace hb3 := (hb3.ext hcD).fro hfE (fun e => by have e' : b1 = b7 := e; omega)
        replace hps := PartsAt.fro (hps.ext hcD) hfE (fun k hk e => by have h1 : k < n := hk; have e' : k = b7 := e; omega)
        refine W_seq ?_
        refine W_seq ?_
        refine W_region ?_
        refine WL_val rfl rfl rfl (st_fieldAddr (off := 1) Tryd.underlying24 rfl rfl ti4 rfl) ?_
        refine WL_val rfl rfl rfl (st_load ⟨_, Tryd.underlying4, rfl⟩ rfl (hb3.cell 1 rfl)) ?_
        refine WL_nil ?_
        refine W_cond rfl (fun h38 => ?_) (fun h38 => ?_)
        · subst h38
          refine W_region ?_
          refine WL_val rfl rfl rfl (st_fieldAddr (off := 2) Tryd.underlying24 rfl rfl ti22 rfl) ?_
          refine WL_val rfl rfl rfl (st_load ⟨_, Tryd.underlying22, rfl⟩ rfl (hb7.cell 2 rfl)) ?_
          refine WL_val rfl rfl rfl (st_build (pl := [(0, 1), (1, 1), (2, 1), (3, 1), (4, 1)]) (cs := [.int .i64 1, .string ⟨#[47]⟩, .bool false, .slice none 0 0, .slice none 0 0]) ti33 Tryd.underlying33 (fun _ => by kernel_rfl) rfl) ?_
          refine WL_val rfl rfl rfl (st_build (pl := [(0, 1), (1, 1), (2, 1), (3, 1), (4, 1)]) (cs := [.int .i64 4, .string ⟨#[]⟩, .bool false, .slice none 0 0, .slice none 0 0]) ti33 Tryd.underlying33 (fun _ => by kernel_rfl) rfl) ?_
          refine WL_ef (ef_buildSlice (len := 2) (cs := [.int .i64 1, .string ⟨#[47]⟩, .bool false, .slice none 0 0, .slice none 0 0, .int .i64 4, .string ⟨#[]⟩, .bool false, .slice none 0 0, .slice none 0 0]) Tryd.underlying22 ti33 (by decide) (by decide) (by kernel_rfl)) rfl rfl rfl ?_
          rintro _ vF ⟨gl, rfl, hgl, hbl, hxF⟩
          replace hx := hx.ext hxF
          replace hps := hps.ext hxF
          replace hb3 := hb3.ext hxF
          replace hb7 := hb7.ext hxF
          replace hPX := hPX.ext hxF
          have hsF := hx.size
          have hb7F := hb7.lt
          obtain ⟨css, g, hown, hg0, hgb, hPs, hgs⟩ := hPX.prep (by omega) hb7F
          have hpl := len_sz ps
          have hLl : (waysP :: ps).length ≤ ps.length + 1 := by simp
          refine WL_ef (ef_append (v := .slice a5 (waysP :: ps).length c5) (m := 2) (news := [.int .i64 1, .string ⟨#[47]⟩, .bool false, .slice none 0 0, .slice none 0 0, .int .i64 4, .string ⟨#[]⟩, .bool false, .slice none 0 0, .slice none 0 0]) Tryd.underlying22 Tryd.underlying22 isSl_slice ti33 rfl rfl hown rfl (src_slice (by rfl) (.inr ⟨gl, 0, rfl, hbl.cells⟩) (fun h => by cases h)) rfl rfl (by omega) (by omega)) rfl rfl rfl ?_
          rintro v6 vG ⟨g6, hown6, hf6, hg6, _⟩
          have hPG : PX b7 n5 vG v6 ((waysP :: ps) ++ [slashP, deepP]) := PX.app (ps := (waysP :: ps)) (qs := [slashP, deepP]) (css := css) (ds := [slashC, deepC]) (g := g) hb7F rfl hg0 hgb (by omega) hPs lit_two hown6 hf6 hg6
          obtain ⟨a6, c6, rfl⟩ := hPG.len
          replace hx := Fro.trans_new hx hf6 (fun _ e => by subst e; omega)
          have hb7 := hb7.fro hf6 (fun e => hgb e.symm)
          have hb3 := hb3.fro hf6 (fun e => by have e' : b1 = g := e; omega)
          replace hps := PartsAt.fro hps hf6 (fun k hk e => by have h1 : k < n := hk; have e' : k = g := e; omega)
          have hsG := hf6.size
          refine WL_call rfl rfl rfl (wJoined_ok (fun k => n5 ≤ k ∧ k < vG.heap.size ∧ k ≠ b7) _ ((waysP :: ps) ++ [slashP, deepP]) _ (fun k hk => hk.2.1) (hPG.parts (by have := len_sz ps; simp; omega)) (by have h1 := nstL_sz ((waysP :: ps) ++ [slashP, deepP]); rw [szL_append, szL_cons slashP, szL_cons deepP, szL_nil, sz_slash, sz_deep] at h1; rw [szL_cons waysP, sz_ways] at h1; omega)) (ent_go rfl) ?_
          rintro rv w12 ⟨hx13, hJ⟩
          obtain ⟨a8, c8, rfl, _⟩ := hJ.form
          have hsJ0 := Fro.size hx13
          replace hx := hx.ext hx13
          replace hps := hps.ext hx13
          replace hb3 := hb3.ext hx13
          replace hb7 := hb7.ext hx13
          refine WL_val rfl rfl rfl (st_fieldAddr (off := 2) Tryd.underlying24 rfl rfl ti22 rfl) ?_
          refine WL_su (su_store ti22 rfl hb7 (Nat.le_of_ble_eq_true rfl) rfl rfl) rfl rfl ?_
          rintro w14 ⟨hnb, hf15⟩
          have hb7 : Blk w14 b7 24 [.bool true, .bool false, .slice a8 (joinL ((waysP :: ps) ++ [slashP, deepP])).length c8] := hnb
          clear hnb
          replace hx := Fro.trans_new hx hf15 (fun _ e => by subst e; omega)
          have hb3 := hb3.fro hf15 (fun e => by have e' : b1 = b7 := e; omega)
          replace hps := PartsAt.fro hps hf15 (fun k hk e => by have h1 : k < n := hk; have e' : k = b7 := e; omega)
          replace hJ := PartsAt.fro hJ hf15 (fun k hk e => by
            have e' : k = b7 := e
            rcases hk with hk | hk
            · exact hk.2.2 e'
            · have := hk.1; omega)
          have hsJ := Fro.size hf15
          refine WL_nil ?_
          refine W_seq ?_
          refine W_seq ?_
          have hH : PartsAt (· < w14.heap.size) w14 (.slice a8 (joinL ((waysP :: ps) ++ [slashP, deepP])).length c8) (hpsL false true ps) := hJ.mono (fun k hk => by rcases hk with hk | hk; have := hk.2.1; show k < _; omega; have := hk.2; show k < _; omega)
          obtain ⟨nH, hnH⟩ : ∃ x, x = w14.heap.size := ⟨_, rfl⟩
          rw [← hnH] at hH
          have hzH := hps_sz false true ps
          have hcH : cntP (hpsL false true ps) ≤ 4611686018427387904 := by have := cntP_sz (hpsL false true ps); omega
          have hlH : (printL false (hpsL false true ps)).length ≤ 1000000000 := by have := printL_sz (hpsL false true ps) false; omega
          have htH : ∀ p ∈ (hpsL false true ps), p.text.size ≤ 1099511627776 := fun p hp => by have := text_sz hp; omega
          have hsH : nstL (hpsL false true ps) ≤ 400000000 := by have := nstL_sz (hpsL false true ps); omega
          have hnHs : nH ≤ w14.heap.size := by omega
          have hxH := Ext.refl w14
          refine W_region ?_
          refine WL_val rfl rfl rfl (st_loada ⟨_, Tryd.underlying24, rfl⟩ ti24 rfl hb7.cells rfl) ?_
          refine WL_call rfl rfl rfl (CheckGlob_ok true false (hpsL false true ps) nH _ _ hnHs hH hcH hlH htH) (ent_go rfl) ?_
          rintro _ w16 ⟨rfl, hx17⟩
          replace hx := hx.ext hx17
          replace hps := hps.ext hx17
          replace hb3 := hb3.ext hx17
          replace hb7 := hb7.ext hx17
          replace hH := hH.ext hx17
          replace hxH := hxH.ext hx17
          refine WL_val rfl rfl rfl (st_as (v := .int _ _) rfl) ?_
          refine WL_nil ?_
          refine W_seq ?_
          refine W_region ?_
          refine WL_val rfl rfl rfl (st_mv (v := .int _ _) rfl) ?_
          refine WL_val rfl rfl rfl (st_neq rfl rfl) ?_
          refine WL_nil ?_
          refine W_cond rfl (fun h50 => ?_) (fun h50 => ?_)
          · have g50 := of_decide_eq_true h50
            refine W_seq ?_
            refine W_region ?_
            refine WL_val rfl rfl rfl (st_mv (v := .int _ _) rfl) ?_
            refine WL_val rfl rfl rfl (st_eql rfl rfl) ?_
            refine WL_val rfl rfl rfl (st_mv (v := .bool _) rfl) ?_
            refine WL_split 53 rfl (fun h53 => ?_) (fun h53 => ?_)
            · have g53 := of_decide_eq_true h53
              refine WL_pass rfl rfl rfl (congrArg Value.bool h53) rfl rfl ?_
              refine WL_pass rfl rfl rfl (congrArg Value.bool h53) rfl rfl ?_
              refine WL_val rfl rfl rfl (st_pk_t (v := (.bool true)) (congrArg Value.bool h53) rfl) ?_
              refine WL_val rfl rfl rfl (st_as (v := .bool _) rfl) ?_
              refine WL_nil ?_
              refine W_ret ?_
              refine qr1 ?_
              exact ⟨rfl, hx⟩
            · have g53 := of_decide_eq_false h53
              refine WL_valg rfl rfl rfl (congrArg Value.bool h53) rfl rfl (st_mv (v := .int _ _) rfl) ?_
              refine WL_valg rfl rfl rfl (congrArg Value.bool h53) rfl rfl (st_eql rfl rfl) ?_
              refine WL_val rfl rfl rfl (st_pk_f (v := .bool _) (congrArg Value.bool h53) rfl) ?_
              refine WL_val rfl rfl rfl (st_as (v := .bool _) rfl) ?_
              refine WL_nil ?_
              refine W_ret ?_
              refine qr1 ?_
              exact ⟨vbool (decide_eq_true ((hps_check false true ps hck).elim (fun h => absurd h g50) (fun h => h.elim id (fun h => absurd h g53)))), hx⟩
          · have g50 := of_decide_eq_false h50
            refine W_skip ?_
            refine W_seq ?_
            have hckH : checkG ⟨true, false, (hpsL false true ps)⟩ = 0 := Decidable.not_not.1 g50
            have hsz14 := hx.size
            refine W_region ?_
            refine WL_val rfl rfl rfl (st_loada ⟨_, Tryd.underlying24, rfl⟩ ti24 rfl hb3.cells rfl) ?_
            refine WL_val rfl rfl rfl (st_mv (v := .string _) rfl) ?_
            refine WL_call rfl rfl rfl (Matches_ok false true ps n _ t m0 _ (Ext.cell hx hm) (by have := hx.size; omega) hps hc hl htx hts) (ent_go rfl) ?_
            rintro _ w18 ⟨bg, eg, rfl, hg, hx19⟩
            have hsX1 := Fro.size hx19
            replace hx := hx.ext hx19
            replace hps := hps.ext hx19
            replace hb3 := hb3.ext hx19
            replace hb7 := hb7.ext hx19
            replace hH := hH.ext hx19
            replace hxH := hxH.ext hx19
            refine WL_val rfl rfl rfl (st_mv (v := .tuple _) rfl) ?_
            refine WL_val rfl rfl rfl (st_extract rfl rfl) ?_
            refine WL_val rfl rfl rfl (st_extract rfl rfl) ?_
            refine WL_val rfl rfl rfl (st_as (v := .bool _) rfl) ?_
            refine WL_val rfl rfl rfl (st_as (v := .int _ _) rfl) ?_
            refine WL_nil ?_
            refine W_seq ?_
            refine W_region ?_
            refine WL_val rfl rfl rfl (st_loada ⟨_, Tryd.underlying24, rfl⟩ ti24 rfl hb7.cells rfl) ?_
            refine WL_val rfl rfl rfl (st_mv (v := .string _) rfl) ?_
            refine WL_call rfl rfl rfl (Matches_ok true false (hpsL false true ps) nH _ t m0 _ (Ext.cell hx hm) (by have := Fro.size hxH; omega) hH hcH hlH htH hts) (ent_go rfl) ?_
            rintro _ w20 ⟨bh, eh, rfl, hh, hx21⟩
            have hsX2 := Fro.size hx21
            replace hx := hx.ext hx21
            replace hps := hps.ext hx21
            replace hb3 := hb3.ext hx21
            replace hb7 := hb7.ext hx21
            replace hH := hH.ext hx21
            replace hxH := hxH.ext hx21
            refine WL_val rfl rfl rfl (st_mv (v := .tuple _) rfl) ?_
            refine WL_val rfl rfl rfl (st_extract rfl rfl) ?_
            refine WL_val rfl rfl rfl (st_extract rfl rfl) ?_
            refine WL_val rfl rfl rfl (st_as (v := .bool _) rfl) ?_
            refine WL_val rfl rfl rfl (st_as (v := .int _ _) rfl) ?_
            refine WL_nil ?_
            refine W_seq ?_
            refine W_seq ?_
            obtain ⟨rfl, rfl⟩ := top_m hck hckH hg hh
            refine W_region ?_
            refine WL_val rfl rfl rfl (st_mv (v := .int _ _) rfl) ?_
            refine WL_val rfl rfl rfl (st_mv (v := .int _ _) rfl) ?_
            refine WL_val rfl rfl rfl ((st_vb (b := false) (by simp) (st_neq rfl rfl))) ?_
            refine WL_val rfl rfl rfl (st_mv (v := .bool _) rfl) ?_
            refine WL_valg rfl rfl rfl rfl rfl rfl (st_mv (v := .bool _) rfl) ?_
            refine WL_valg rfl rfl rfl rfl rfl rfl (st_mv (v := .bool _) rfl) ?_
            refine WL_valg rfl rfl rfl rfl rfl rfl ((st_vb (b := false) (by simp) (st_neqb Tryd.underlying4 rfl rfl))) ?_
            refine WL_val rfl rfl rfl (st_pk_f (v := .bool _) rfl rfl) ?_
            refine WL_nil ?_
            refine W_no rfl ?_
            refine W_skip ?_
            refine W_seq ?_
            refine W_region ?_
            refine WL_val rfl rfl rfl (st_loada ⟨_, Tryd.underlying24, rfl⟩ ti24 rfl hb3.cells rfl) ?_
            refine WL_val rfl rfl rfl (st_mv (v := .string _) rfl) ?_
            refine WL_call rfl rfl rfl (Below_ok false true ps n _ d m0 _ (Ext.cell hx hm) (by have := hx.size; omega) hps hc hl htx hds hnst) (ent_go rfl) ?_
            rintro _ w22 ⟨bg2, eg2, rfl, hg2, hx23⟩
            have hsX3 := Fro.size hx23
            replace hx := hx.ext hx23
            replace hps := hps.ext hx23
            replace hb3 := hb3.ext hx23
            replace hb7 := hb7.ext hx23
            replace hH := hH.ext hx23
            replace hxH := hxH.ext hx23
            refine WL_val rfl rfl rfl (st_mv (v := .tuple _) rfl) ?_
            refine WL_val rfl rfl rfl (st_extract rfl rfl) ?_
            refine WL_val rfl rfl rfl (st_extract rfl rfl) ?_
            refine WL_val rfl rfl rfl (st_as (v := .bool _) rfl) ?_
            refine WL_val rfl rfl rfl (st_as (v := .int _ _) rfl) ?_
            refine WL_nil ?_
            refine W_seq ?_
            refine W_region ?_
            refine WL_val rfl rfl rfl (st_loada ⟨_, Tryd.underlying24, rfl⟩ ti24 rfl hb7.cells rfl) ?_
            refine WL_val rfl rfl rfl (st_mv (v := .string _) rfl) ?_
            refine WL_call rfl rfl rfl (Below_ok true false (hpsL false true ps) nH _ d m0 _ (Ext.cell hx hm) (by have := Fro.size hxH; omega) hH hcH hlH htH hds hsH) (ent_go rfl) ?_
            rintro _ w24 ⟨bh2, eh2, rfl, hh2, hx25⟩
            replace hx := hx.ext hx25
            replace hps := hps.ext hx25
            replace hb3 := hb3.ext hx25
            replace hb7 := hb7.ext hx25
            replace hH := hH.ext hx25
            replace hxH := hxH.ext hx25
            refine WL_val rfl rfl rfl (st_mv (v := .tuple _) rfl) ?_
            refine WL_val rfl rfl rfl (st_extract rfl rfl) ?_
            refine WL_val rfl rfl rfl (st_extract rfl rfl) ?_
            refine WL_val rfl rfl rfl (st_as (v := .bool _) rfl) ?_
            refine WL_val rfl rfl rfl (st_as (v := .int _ _) rfl) ?_
            refine WL_nil ?_
            refine W_seq ?_
            obtain ⟨rfl, rfl⟩ := top_b hck hckH hg2 hh2
            refine W_region ?_
            refine WL_val rfl rfl rfl (st_mv (v := .int _ _) rfl) ?_
            refine WL_val rfl rfl rfl (st_mv (v := .int _ _) rfl) ?_
            refine WL_val rfl rfl rfl ((st_vb (b := true) (by simp) (st_eql rfl rfl))) ?_
            refine WL_val rfl rfl rfl (st_mv (v := .bool _) rfl) ?_
            refine WL_valg rfl rfl rfl rfl rfl rfl (st_mv (v := .bool _) rfl) ?_
            refine WL_valg rfl rfl rfl rfl rfl rfl (st_mv (v := .bool _) rfl) ?_
            refine WL_valg rfl rfl rfl rfl rfl rfl ((st_vb (b := true) (by simp) (st_eqlb Tryd.underlying4 rfl rfl))) ?_
            refine WL_val rfl rfl rfl (st_pk_t (v := .bool _) rfl rfl) ?_
            refine WL_val rfl rfl rfl (st_as (v := .bool _) rfl) ?_
            refine WL_nil ?_
            refine W_ret ?_
            refine qr1 ?_
            exact ⟨rfl, hx⟩
        · subst h38
          refine W_skip ?_
          refine W_seq ?_
          refine W_seq ?_
          have hH : PartsAt (· < vE.heap.size) vE (.slice a5 (waysP :: ps).length c5) (hpsL false false ps) := (hPX.parts (by have := len_sz ps; simp; omega)).mono (fun k hk => hk.2.1)
          obtain ⟨nH, hnH⟩ : ∃ x, x = vE.heap.size := ⟨_, rfl⟩
          rw [← hnH] at hH
          have hzH := hps_sz false false ps
          have hcH : cntP (hpsL false false ps) ≤ 4611686018427387904 := by have := cntP_sz (hpsL false false ps); omega
          have hlH : (printL false (hpsL false false ps)).length ≤ 1000000000 := by have := printL_sz (hpsL false false ps) false; omega
          have htH : ∀ p ∈ (hpsL false false ps), p.text.size ≤ 1099511627776 := fun p hp => by have := text_sz hp; omega
          have hsH : nstL (hpsL false false ps) ≤ 400000000 := by have := nstL_sz (hpsL false false ps); omega
          have hnHs : nH ≤ vE.heap.size := by omega
          have hxH := Ext.refl vE
          refine W_region ?_
          refine WL_val rfl rfl rfl (st_loada ⟨_, Tryd.underlying24, rfl⟩ ti24 rfl hb7.cells rfl) ?_
          refine WL_call rfl rfl rfl (CheckGlob_ok true false (hpsL false false ps) nH _ _ hnHs hH hcH hlH htH) (ent_go rfl) ?_
          rintro _ w26 ⟨rfl, hx27⟩
          replace hx := hx.ext hx27
          replace hps := hps.ext hx27
          replace hb3 := hb3.ext hx27
          replace hb7 := hb7.ext hx27
          replace hH := hH.ext hx27
          replace hxH := hxH.ext hx27
          refine WL_val rfl rfl rfl (st_as (v := .int _ _) rfl) ?_
          refine WL_nil ?_
          refine W_seq ?_
          refine W_region ?_
          refine WL_val rfl rfl rfl (st_mv (v := .int _ _) rfl) ?_
          refine WL_val rfl rfl rfl (st_neq rfl rfl) ?_
          refine WL_nil ?_
          refine W_cond rfl (fun h50 => ?_) (fun h50 => ?_)
          · have g50 := of_decide_eq_true h50
            refine W_seq ?_
            refine W_region ?_
            refine WL_val rfl rfl rfl (st_mv (v := .int _ _) rfl) ?_
            refine WL_val rfl rfl rfl (st_eql rfl rfl) ?_
            refine WL_val rfl rfl rfl (st_mv (v := .bool _) rfl) ?_
            refine WL_split 53 rfl (fun h53 => ?_) (fun h53 => ?_)
            · have g53 := of_decide_eq_true h53
              refine WL_pass rfl rfl rfl (congrArg Value.bool h53) rfl rfl ?_
              refine WL_pass rfl rfl rfl (congrArg Value.bool h53) rfl rfl ?_
              refine WL_val rfl rfl rfl (st_pk_t (v := (.bool true)) (congrArg Value.bool h53) rfl) ?_
              refine WL_val rfl rfl rfl (st_as (v := .bool _) rfl) ?_
              refine WL_nil ?_
              refine W_ret ?_
              refine qr1 ?_
              exact ⟨rfl, hx⟩
            · have g53 := of_decide_eq_false h53
              refine WL_valg rfl rfl rfl (congrArg Value.bool h53) rfl rfl (st_mv (v := .int _ _) rfl) ?_
              refine WL_valg rfl rfl rfl (congrArg Value.bool h53) rfl rfl (st_eql rfl rfl) ?_
              refine WL_val rfl rfl rfl (st_pk_f (v := .bool _) (congrArg Value.bool h53) rfl) ?_
              refine WL_val rfl rfl rfl (st_as (v := .bool _) rfl) ?_
              refine WL_nil ?_
              refine W_ret ?_
              refine qr1 ?_
              exact ⟨vbool (decide_eq_true ((hps_check false false ps hck).elim (fun h => absurd h g50) (fun h => h.elim id (fun h => absurd h g53)))), hx⟩
          · have g50 := of_decide_eq_false h50
            refine W_skip ?_
            refine W_seq ?_
            have hckH : checkG ⟨true, false, (hpsL false false ps)⟩ = 0 := Decidable.not_not.1 g50
            have hsz14 := hx.size
            refine W_region ?_
            refine WL_val rfl rfl rfl (st_loada ⟨_, Tryd.underlying24, rfl⟩ ti24 rfl hb3.cells rfl) ?_
            refine WL_val rfl rfl rfl (st_mv (v := .string _) rfl) ?_
            refine WL_call rfl rfl rfl (Matches_ok false false ps n _ t m0 _ (Ext.cell hx hm) (by have := hx.size; omega) hps hc hl htx hts) (ent_go rfl) ?_
            rintro _ w28 ⟨bg, eg, rfl, hg, hx29⟩
            have hsX1 := Fro.size hx29
            replace hx := hx.ext hx29
            replace hps := hps.ext hx29
            replace hb3 := hb3.ext hx29
            replace hb7 := hb7.ext hx29
            replace hH := hH.ext hx29
            replace hxH := hxH.ext hx29
            refine WL_val rfl rfl rfl (st_mv (v := .tuple _) rfl) ?_
            refine WL_val rfl rfl rfl (st_extract rfl rfl) ?_
            refine WL_val rfl rfl rfl (st_extract rfl rfl) ?_
            refine WL_val rfl rfl rfl (st_as (v := .bool _) rfl) ?_
            refine WL_val rfl rfl rfl (st_as (v := .int _ _) rfl) ?_
            refine WL_nil ?_
            refine W_seq ?_
            refine W_region ?_
            refine WL_val rfl rfl rfl (st_loada ⟨_, Tryd.underlying24, rfl⟩ ti24 rfl hb7.cells rfl) ?_
            refine WL_val rfl rfl rfl (st_mv (v := .string _) rfl) ?_
            refine WL_call rfl rfl rfl (Matches_ok true false (hpsL false false ps) nH _ t m0 _ (Ext.cell hx hm) (by have := Fro.size hxH; omega) hH hcH hlH htH hts) (ent_go rfl) ?_
            rintro _ w30 ⟨bh, eh, rfl, hh, hx31⟩
            have hsX2 := Fro.size hx31
            replace hx := hx.ext hx31
            replace hps := hps.ext hx31
            replace hb3 := hb3.ext hx31
            replace hb7 := hb7.ext hx31
            replace hH := hH.ext hx31
            replace hxH := hxH.ext hx31
            refine WL_val rfl rfl rfl (st_mv (v := .tuple _) rfl) ?_
            refine WL_val rfl rfl rfl (st_extract rfl rfl) ?_
            refine WL_val rfl rfl rfl (st_extract rfl rfl) ?_
            refine WL_val rfl rfl rfl (st_as (v := .bool _) rfl) ?_
            refine WL_val rfl rfl rfl (st_as (v := .int _ _) rfl) ?_
            refine WL_nil ?_
            refine W_seq ?_
            refine W_seq ?_
            obtain ⟨rfl, rfl⟩ := top_m hck hckH hg hh
            refine W_region ?_
            refine WL_val rfl rfl rfl (st_mv (v := .int _ _) rfl) ?_
            refine WL_val rfl rfl rfl (st_mv (v := .int _ _) rfl) ?_
            refine WL_val rfl rfl rfl ((st_vb (b := false) (by simp) (st_neq rfl rfl))) ?_
            refine WL_val rfl rfl rfl (st_mv (v := .bool _) rfl) ?_
            refine WL_valg rfl rfl rfl rfl rfl rfl (st_mv (v := .bool _) rfl) ?_
            refine WL_valg rfl rfl rfl rfl rfl rfl (st_mv (v := .bool _) rfl) ?_
            refine WL_valg rfl rfl rfl rfl rfl rfl ((st_vb (b := false) (by simp) (st_neqb Tryd.underlying4 rfl rfl))) ?_
            refine WL_val rfl rfl rfl (st_pk_f (v := .bool _) rfl rfl) ?_
            refine WL_nil ?_
            refine W_no rfl ?_
            refine W_skip ?_
            refine W_seq ?_
            refine W_region ?_
            refine WL_val rfl rfl rfl (st_loada ⟨_, Tryd.underlying24, rfl⟩ ti24 rfl hb3.cells rfl) ?_
            refine WL_val rfl rfl rfl (st_mv (v := .string _) rfl) ?_
            refine WL_call rfl rfl rfl (Below_ok false false ps n _ d m0 _ (Ext.cell hx hm) (by have := hx.size; omega) hps hc hl htx hds hnst) (ent_go rfl) ?_
            rintro _ w32 ⟨bg2, eg2, rfl, hg2, hx33⟩
            have hsX3 := Fro.size hx33
            replace hx := hx.ext hx33
            replace hps := hps.ext hx33
            replace hb3 := hb3.ext hx33
            replace hb7 := hb7.ext hx33
            replace hH := hH.ext hx33
            replace hxH := hxH.ext hx33
            refine WL_val rfl rfl rfl (st_mv (v := .tuple _) rfl) ?_
            refine WL_val rfl rfl rfl (st_extract rfl rfl) ?_
            refine WL_val rfl rfl rfl (st_extract rfl rfl) ?_
            refine WL_val rfl rfl rfl (st_as (v := .bool _) rfl) ?_
            refine WL_val rfl rfl rfl (st_as (v := .int _ _) rfl) ?_
            refine WL_nil ?_
            refine W_seq ?_
            refine W_region ?_
            refine WL_val rfl rfl rfl (st_loada ⟨_, Tryd.underlying24, rfl⟩ ti24 rfl hb7.cells rfl) ?_
            refine WL_val rfl rfl rfl (st_mv (v := .string _) rfl) ?_
            refine WL_call rfl rfl rfl (Below_ok true false (hpsL false false ps) nH _ d m0 _ (Ext.cell hx hm) (by have := Fro.size hxH; omega) hH hcH hlH htH hds hsH) (ent_go rfl) ?_
            rintro _ w34 ⟨bh2, eh2, rfl, hh2, hx35⟩
            replace hx := hx.ext hx35
            replace hps := hps.ext hx35
            replace hb3 := hb3.ext hx35
            replace hb7 := hb7.ext hx35
            replace hH := hH.ext hx35
            replace hxH := hxH.ext hx35
            refine WL_val rfl rfl rfl (st_mv (v := .tuple _) rfl) ?_
            refine WL_val rfl rfl rfl (st_extract rfl rfl) ?_
            refine WL_val rfl rfl rfl (st_extract rfl rfl) ?_
            refine WL_val rfl rfl rfl (st_as (v := .bool _) rfl) ?_
            refine WL_val rfl rfl rfl (st_as (v := .int _ _) rfl) ?_
            refine WL_nil ?_
            refine W_seq ?_
            obtain ⟨rfl, rfl⟩ := top_b hck hckH hg2 hh2
            refine W_region ?_
            refine WL_val rfl rfl rfl (st_mv (v := .int _ _) rfl) ?_
            refine WL_val rfl rfl rfl (st_mv (v := .int _ _) rfl) ?_
            refine WL_val rfl rfl rfl ((st_vb (b := true) (by simp) (st_eql rfl rfl))) ?_
            refine WL_val rfl rfl rfl (st_mv (v := .bool _) rfl) ?_
            refine WL_valg rfl rfl rfl rfl rfl rfl (st_mv (v := .bool _) rfl) ?_
            refine WL_valg rfl rfl rfl rfl rfl rfl (st_mv (v := .bool _) rfl) ?_
            refine WL_valg rfl rfl rfl rfl rfl rfl ((st_vb (b := true) (by simp) (st_eqlb Tryd.underlying4 rfl rfl))) ?_
            refine WL_val rfl rfl rfl (st_pk_t (v := .bool _) rfl rfl) ?_
            refine WL_val rfl rfl rfl (st_as (v := .bool _) rfl) ?_
            refine WL_nil ?_
            refine W_ret ?_
            refine qr1 ?_
            exact ⟨rfl, hx⟩
      · have hrt : rt = true := not_f h26
        subst hrt
        refine W_skip ?_
        refine W_seq ?_
        refine W_seq ?_
        refine W_region ?_
        refine WL_val rfl rfl rfl (st_fieldAddr (off := 1) Tryd.underlying24 rfl rfl ti4 rfl) ?_
        refine WL_val rfl rfl rfl (st_load ⟨_, Tryd.underlying4, rfl⟩ rfl (hb3.cell 1 rfl)) ?_
        refine WL_nil ?_
        refine W_cond rfl (fun h38 => ?_) (fun h38 => ?_)
        · subst h38
          refine W_region ?_
          refine WL_val rfl rfl rfl (st_fieldAddr (off := 2) Tryd.underlying24 rfl rfl ti22 rfl) ?_
          refine WL_val rfl rfl rfl (st_load ⟨_, Tryd.underlying22, rfl⟩ rfl (hb7.cell 2 rfl)) ?_
          refine WL_val rfl rfl rfl (st_build (pl := [(0, 1), (1, 1), (2, 1), (3, 1), (4, 1)]) (cs := [.int .i64 1, .string ⟨#[47]⟩, .bool false, .slice none 0 0, .slice none 0 0]) ti33 Tryd.underlying33 (fun _ => by kernel_rfl) rfl) ?_
          refine WL_val rfl rfl rfl (st_build (pl := [(0, 1), (1, 1), (2, 1), (3, 1), (4, 1)]) (cs := [.int .i64 4, .string ⟨#[]⟩, .bool false, .slice none 0 0, .slice none 0 0]) ti33 Tryd.underlying33 (fun _ => by kernel_rfl) rfl) ?_
          refine WL_ef (ef_buildSlice (len := 2) (cs := [.int .i64 1, .string ⟨#[47]⟩, .bool false, .slice none 0 0, .slice none 0 0, .int .i64 4, .string ⟨#[]⟩, .bool false, .slice none 0 0, .slice none 0 0]) Tryd.underlying22 ti33 (by decide) (by decide) (by kernel_rfl)) rfl rfl rfl ?_
          rintro _ vF ⟨gl, rfl, hgl, hbl, hxF⟩
          replace hx := hx.ext hxF
          replace hps := hps.ext hxF
          replace hb3 := hb3.ext hxF
          replace hb7 := hb7.ext hxF
          replace hPX := hPX.ext hxF
          have hsF := hx.size
          have hb7F := hb7.lt
          obtain ⟨css, g, hown, hg0, hgb, hPs, hgs⟩ := hPX.prep (by omega) hb7F
          have hpl := len_sz ps
          have hLl : ps.length ≤ ps.length + 1 := by simp
          refine WL_ef (ef_append (v := .slice a1 ps.length c1) (m := 2) (news := [.int .i64 1, .string ⟨#[47]⟩, .bool false, .slice none 0 0, .slice none 0 0, .int .i64 4, .string ⟨#[]⟩, .bool false, .slice none 0 0, .slice none 0 0]) Tryd.underlying22 Tryd.underlying22 isSl_slice ti33 rfl rfl hown rfl (src_slice (by rfl) (.inr ⟨gl, 0, rfl, hbl.cells⟩) (fun h => by cases h)) rfl rfl (by omega) (by omega)) rfl rfl rfl ?_
          rintro v6 vG ⟨g6, hown6, hf6, hg6, _⟩
          have hPG : PX b7 n5 vG v6 (ps ++ [slashP, deepP]) := PX.app (ps := ps) (qs := [slashP, deepP]) (css := css) (ds := [slashC, deepC]) (g := g) hb7F rfl hg0 hgb (by omega) hPs lit_two hown6 hf6 hg6
          obtain ⟨a6, c6, rfl⟩ := hPG.len
          replace hx := Fro.trans_new hx hf6 (fun _ e => by subst e; omega)
          have hb7 := hb7.fro hf6 (fun e => hgb e.symm)
          have hb3 := hb3.fro hf6 (fun e => by have e' : b1 = g := e; omega)
          replace hps := PartsAt.fro hps hf6 (fun k hk e => by have h1 : k < n := hk; have e' : k = g := e; omega)
          have hsG := hf6.size
          refine WL_call rfl rfl rfl (wJoined_ok (fun k => n5 ≤ k ∧ k < vG.heap.size ∧ k ≠ b7) _ (ps ++ [slashP, deepP]) _ (fun k hk => hk.2.1) (hPG.parts (by have := len_sz ps; simp; omega)) (by have h1 := nstL_sz (ps ++ [slashP, deepP]); rw [szL_append, szL_cons slashP, szL_cons deepP, szL_nil, sz_slash, sz_deep] at h1;  omega)) (ent_go rfl) ?_
          rintro rv w36 ⟨hx37, hJ⟩
          obtain ⟨a8, c8, rfl, _⟩ := hJ.form
          have hsJ0 := Fro.size hx37
          replace hx := hx.ext hx37
          replace hps := hps.ext hx37
          replace hb3 := hb3.ext hx37
          replace hb7 := hb7.ext hx37
          refine WL_val rfl rfl rfl (st_fieldAddr (off := 2) Tryd.underlying24 rfl rfl ti22 rfl) ?_
          refine WL_su (su_store ti22 rfl hb7 (Nat.le_of_ble_eq_true rfl) rfl rfl) rfl rfl ?_
          rintro w38 ⟨hnb, hf39⟩
          have hb7 : Blk w38 b7 24 [.bool true, .bool false, .slice a8 (joinL (ps ++ [slashP, deepP])).length c8] := hnb
          clear hnb
          replace hx := Fro.trans_new hx hf39 (fun _ e => by subst e; omega)
          have hb3 := hb3.fro hf39 (fun e => by have e' : b1 = b7 := e; omega)
          replace hps := PartsAt.fro hps hf39 (fun k hk e => by have h1 : k < n := hk; have e' : k = b7 := e; omega)
          replace hJ := PartsAt.fro hJ hf39 (fun k hk e => by
            have e' : k = b7 := e
            rcases hk with hk | hk
            · exact hk.2.2 e'
            · have := hk.1; omega)
          have hsJ := Fro.size hf39
          refine WL_nil ?_
          refine W_seq ?_
          refine W_seq ?_
          have hH : PartsAt (· < w38.heap.size) w38 (.slice a8 (joinL (ps ++ [slashP, deepP])).length c8) (hpsL true true ps) := hJ.mono (fun k hk => by rcases hk with hk | hk; have := hk.2.1; show k < _; omega; have := hk.2; show k < _; omega)
          obtain ⟨nH, hnH⟩ : ∃ x, x = w38.heap.size := ⟨_, rfl⟩
          rw [← hnH] at hH
          have hzH := hps_sz true true ps
          have hcH : cntP (hpsL true true ps) ≤ 4611686018427387904 := by have := cntP_sz (hpsL true true ps); omega
          have hlH : (printL false (hpsL true true ps)).length ≤ 1000000000 := by have := printL_sz (hpsL true true ps) false; omega
          have htH : ∀ p ∈ (hpsL true true ps), p.text.size ≤ 1099511627776 := fun p hp => by have := text_sz hp; omega
          have hsH : nstL (hpsL true true ps) ≤ 400000000 := by have := nstL_sz (hpsL true true ps); omega
          have hnHs : nH ≤ w38.heap.size := by omega
          have hxH := Ext.refl w38
          refine W_region ?_
          refine WL_val rfl rfl rfl (st_loada ⟨_, Tryd.underlying24, rfl⟩ ti24 rfl hb7.cells rfl) ?_
          refine WL_call rfl rfl rfl (CheckGlob_ok true false (hpsL true true ps) nH _ _ hnHs hH hcH hlH htH) (ent_go rfl) ?_
          rintro _ w40 ⟨rfl, hx41⟩
          replace hx := hx.ext hx41
          replace hps := hps.ext hx41
          replace hb3 := hb3.ext hx41
          replace hb7 := hb7.ext hx41
          replace hH := hH.ext hx41
          replace hxH := hxH.ext hx41
          refine WL_val rfl rfl rfl (st_as (v := .int _ _) rfl) ?_
          refine WL_nil ?_
          refine W_seq ?_
          refine W_region ?_
          refine WL_val rfl rfl rfl (st_mv (v := .int _ _) rfl) ?_
          refine WL_val rfl rfl rfl (st_neq rfl rfl) ?_
          refine WL_nil ?_
          refine W_cond rfl (fun h50 => ?_) (fun h50 => ?_)
          · have g50 := of_decide_eq_true h50
            refine W_seq ?_
            refine W_region ?_
            refine WL_val rfl rfl rfl (st_mv (v := .int _ _) rfl) ?_
            refine WL_val rfl rfl rfl (st_eql rfl rfl) ?_
            refine WL_val rfl rfl rfl (st_mv (v := .bool _) rfl) ?_
            refine WL_split 53 rfl (fun h53 => ?_) (fun h53 => ?_)
            · have g53 := of_decide_eq_true h53
              refine WL_pass rfl rfl rfl (congrArg Value.bool h53) rfl rfl ?_
              refine WL_pass rfl rfl rfl (congrArg Value.bool h53) rfl rfl ?_
              refine WL_val rfl rfl rfl (st_pk_t (v := (.bool true)) (congrArg Value.bool h53) rfl) ?_
              refine WL_val rfl rfl rfl (st_as (v := .bool _) rfl) ?_
              refine WL_nil ?_
              refine W_ret ?_
              refine qr1 ?_
              exact ⟨rfl, hx⟩
            · have g53 := of_decide_eq_false h53
              refine WL_valg rfl rfl rfl (congrArg Value.bool h53) rfl rfl (st_mv (v := .int _ _) rfl) ?_
              refine WL_valg rfl rfl rfl (congrArg Value.bool h53) rfl rfl (st_eql rfl rfl) ?_
              refine WL_val rfl rfl rfl (st_pk_f (v := .bool _) (congrArg Value.bool h53) rfl) ?_
              refine WL_val rfl rfl rfl (st_as (v := .bool _) rfl) ?_
              refine WL_nil ?_
              refine W_ret ?_
              refine qr1 ?_
              exact ⟨vbool (decide_eq_true ((hps_check true true ps hck).elim (fun h => absurd h g50) (fun h => h.elim id (fun h => absurd h g53)))), hx⟩
          · have g50 := of_decide_eq_false h50
            refine W_skip ?_
            refine W_seq ?_
            have hckH : checkG ⟨true, false, (hpsL true true ps)⟩ = 0 := Decidable.not_not.1 g50
            have hsz14 := hx.size
            refine W_region ?_
            refine WL_val rfl rfl rfl (st_loada ⟨_, Tryd.underlying24, rfl⟩ ti24 rfl hb3.cells rfl) ?_
            refine WL_val rfl rfl rfl (st_mv (v := .string _) rfl) ?_
            refine WL_call rfl rfl rfl (Matches_ok true true ps n _ t m0 _ (Ext.cell hx hm) (by have := hx.size; omega) hps hc hl htx hts) (ent_go rfl) ?_
            rintro _ w42 ⟨bg, eg, rfl, hg, hx43⟩
            have hsX1 := Fro.size hx43
            replace hx := hx.ext hx43
            replace hps := hps.ext hx43
            replace hb3 := hb3.ext hx43
            replace hb7 := hb7.ext hx43
            replace hH := hH.ext hx43
            replace hxH := hxH.ext hx43
            refine WL_val rfl rfl rfl (st_mv (v := .tuple _) rfl) ?_
            refine WL_val rfl rfl rfl (st_extract rfl rfl) ?_
            refine WL_val rfl rfl rfl (st_extract rfl rfl) ?_
            refine WL_val rfl rfl rfl (st_as (v := .bool _) rfl) ?_
            refine WL_val rfl rfl rfl (st_as (v := .int _ _) rfl) ?_
            refine WL_nil ?_
            refine W_seq ?_
            refine W_region ?_
            refine WL_val rfl rfl rfl (st_loada ⟨_, Tryd.underlying24, rfl⟩ ti24 rfl hb7.cells rfl) ?_
            refine WL_val rfl rfl rfl (st_mv (v := .string _) rfl) ?_
            refine WL_call rfl rfl rfl (Matches_ok true false (hpsL true true ps) nH _ t m0 _ (Ext.cell hx hm) (by have := Fro.size hxH; omega) hH hcH hlH htH hts) (ent_go rfl) ?_
            rintro _ w44 ⟨bh, eh, rfl, hh, hx45⟩
            have hsX2 := Fro.size hx45
            replace hx := hx.ext hx45
            replace hps := hps.ext hx45
            replace hb3 := hb3.ext hx45
            replace hb7 := hb7.ext hx45
            replace hH := hH.ext hx45
            replace hxH := hxH.ext hx45
            refine WL_val rfl rfl rfl (st_mv (v := .tuple _) rfl) ?_
            refine WL_val rfl rfl rfl (st_extract rfl rfl) ?_
            refine WL_val rfl rfl rfl (st_extract rfl rfl) ?_
            refine WL_val rfl rfl rfl (st_as (v := .bool _) rfl) ?_
            refine WL_val rfl rfl rfl (st_as (v := .int _ _) rfl) ?_
            refine WL_nil ?_
            refine W_seq ?_
            refine W_seq ?_
            obtain ⟨rfl, rfl⟩ := top_m hck hckH hg hh
            refine W_region ?_
            refine WL_val rfl rfl rfl (st_mv (v := .int _ _) rfl) ?_
            refine WL_val rfl rfl rfl (st_mv (v := .int _ _) rfl) ?_
            refine WL_val rfl rfl rfl ((st_vb (b := false) (by simp) (st_neq rfl rfl))) ?_
            refine WL_val rfl rfl rfl (st_mv (v := .bool _) rfl) ?_
            refine WL_valg rfl rfl rfl rfl rfl rfl (st_mv (v := .bool _) rfl) ?_
            refine WL_valg rfl rfl rfl rfl rfl rfl (st_mv (v := .bool _) rfl) ?_
            refine WL_valg rfl rfl rfl rfl rfl rfl ((st_vb (b := false) (by simp) (st_neqb Tryd.underlying4 rfl rfl))) ?_
            refine WL_val rfl rfl rfl (st_pk_f (v := .bool _) rfl rfl) ?_
            refine WL_nil ?_
            refine W_no rfl ?_
            refine W_skip ?_
            refine W_seq ?_
            refine W_region ?_
            refine WL_val rfl rfl rfl (st_loada ⟨_, Tryd.underlying24, rfl⟩ ti24 rfl hb3.cells rfl) ?_
            refine WL_val rfl rfl rfl (st_mv (v := .string _) rfl) ?_
            refine WL_call rfl rfl rfl (Below_ok true true ps n _ d m0 _ (Ext.cell hx hm) (by have := hx.size; omega) hps hc hl htx hds hnst) (ent_go rfl) ?_
            rintro _ w46 ⟨bg2, eg2, rfl, hg2, hx47⟩
            have hsX3 := Fro.size hx47
            replace hx := hx.ext hx47
            replace hps := hps.ext hx47
            replace hb3 := hb3.ext hx47
            replace hb7 := hb7.ext hx47
            replace hH := hH.ext hx47
            replace hxH := hxH.ext hx47
            refine WL_val rfl rfl rfl (st_mv (v := .tuple _) rfl) ?_
            refine WL_val rfl rfl rfl (st_extract rfl rfl) ?_
            refine WL_val rfl rfl rfl (st_extract rfl rfl) ?_
            refine WL_val rfl rfl rfl (st_as (v := .bool _) rfl) ?_
            refine WL_val rfl rfl rfl (st_as (v := .int _ _) rfl) ?_
            refine WL_nil ?_
            refine W_seq ?_
            refine W_region ?_
            refine WL_val rfl rfl rfl (st_loada ⟨_, Tryd.underlying24, rfl⟩ ti24 rfl hb7.cells rfl) ?_
            refine WL_val rfl rfl rfl (st_mv (v := .string _) rfl) ?_
            refine WL_call rfl rfl rfl (Below_ok true false (hpsL true true ps) nH _ d m0 _ (Ext.cell hx hm) (by have := Fro.size hxH; omega) hH hcH hlH htH hds hsH) (ent_go rfl) ?_
            rintro _ w48 ⟨bh2, eh2, rfl, hh2, hx49⟩
            replace hx := hx.ext hx49
            replace hps := hps.ext hx49
            replace hb3 := hb3.ext hx49
            replace hb7 := hb7.ext hx49
            replace hH := hH.ext hx49
            replace hxH := hxH.ext hx49
            refine WL_val rfl rfl rfl (st_mv (v := .tuple _) rfl) ?_
            refine WL_val rfl rfl rfl (st_extract rfl rfl) ?_
            refine WL_val rfl rfl rfl (st_extract rfl rfl) ?_
            refine WL_val rfl rfl rfl (st_as (v := .bool _) rfl) ?_
            refine WL_val rfl rfl rfl (st_as (v := .int _ _) rfl) ?_
            refine WL_nil ?_
            refine W_seq ?_
            obtain ⟨rfl, rfl⟩ := top_b hck hckH hg2 hh2
            refine W_region ?_
            refine WL_val rfl rfl rfl (st_mv (v := .int _ _) rfl) ?_
            refine WL_val rfl rfl rfl (st_mv (v := .int _ _) rfl) ?_
            refine WL_val rfl rfl rfl ((st_vb (b := true) (by simp) (st_eql rfl rfl))) ?_
            refine WL_val rfl rfl rfl (st_mv (v := .bool _) rfl) ?_
            refine WL_valg rfl rfl rfl rfl rfl rfl (st_mv (v := .bool _) rfl) ?_
            refine WL_valg rfl rfl rfl rfl rfl rfl (st_mv (v := .bool _) rfl) ?_
            refine WL_valg rfl rfl rfl rfl rfl rfl ((st_vb (b := true) (by simp) (st_eqlb Tryd.underlying4 rfl rfl))) ?_
            refine WL_val rfl rfl rfl (st_pk_t (v := .bool _) rfl rfl) ?_
            refine WL_val rfl rfl rfl (st_as (v := .bool _) rfl) ?_
            refine WL_nil ?_
            refine W_ret ?_
            refine qr1 ?_
            exact ⟨rfl, hx⟩
        · subst h38
          refine W_skip ?_
          refine W_seq ?_
          refine W_seq ?_
          have hH : PartsAt (· < vC.heap.size) vC (.slice a1 ps.length c1) (hpsL true false ps) := (hPX.parts (by have := len_sz ps; simp; omega)).mono (fun k hk => hk.2.1)
          obtain ⟨nH, hnH⟩ : ∃ x, x = vC.heap.size := ⟨_, rfl⟩
          rw [← hnH] at hH
          have hzH := hps_sz true false ps
          have hcH : cntP (hpsL true false ps) ≤ 4611686018427387904 := by have := cntP_sz (hpsL true false ps); omega
          have hlH : (printL false (hpsL true false ps)).length ≤ 1000000000 := by have := printL_sz (hpsL true false ps) false; omega
          have htH : ∀ p ∈ (hpsL true false ps), p.text.size ≤ 1099511627776 := fun p hp => by have := text_sz hp; omega
          have hsH : nstL (hpsL true false ps) ≤ 400000000 := by have := nstL_sz (hpsL true false ps); omega
          have hnHs : nH ≤ vC.heap.size := by omega
          have hxH := Ext.refl vC
          refine W_region ?_
          refine WL_val rfl rfl rfl (st_loada ⟨_, Tryd.underlying24, rfl⟩ ti24 rfl hb7.cells rfl) ?_
          refine WL_call rfl rfl rfl (CheckGlob_ok true false (hpsL true false ps) nH _ _ hnHs hH hcH hlH htH) (ent_go rfl) ?_
          rintro _ w50 ⟨rfl, hx51⟩
          replace hx := hx.ext hx51
          replace hps := hps.ext hx51
          replace hb3 := hb3.ext hx51
          replace hb7 := hb7.ext hx51
          replace hH := hH.ext hx51
          replace hxH := hxH.ext hx51
          refine WL_val rfl rfl rfl (st_as (v := .int _ _) rfl) ?_
          refine WL_nil ?_
          refine W_seq ?_
          refine W_region ?_
          refine WL_val rfl rfl rfl (st_mv (v := .int _ _) rfl) ?_
          refine WL_val rfl rfl rfl (st_neq rfl rfl) ?_
          refine WL_nil ?_
          refine W_cond rfl (fun h50 => ?_) (fun h50 => ?_)
          · have g50 := of_decide_eq_true h50
            refine W_seq ?_
            refine W_region ?_
            refine WL_val rfl rfl rfl (st_mv (v := .int _ _) rfl) ?_
            refine WL_val rfl rfl rfl (st_eql rfl rfl) ?_
            refine WL_val rfl rfl rfl (st_mv (v := .bool _) rfl) ?_
            refine WL_split 53 rfl (fun h53 => ?_) (fun h53 => ?_)
            · have g53 := of_decide_eq_true h53
              refine WL_pass rfl rfl rfl (congrArg Value.bool h53) rfl rfl ?_
              refine WL_pass rfl rfl rfl (congrArg Value.bool h53) rfl rfl ?_
              refine WL_val rfl rfl rfl (st_pk_t (v := (.bool true)) (congrArg Value.bool h53) rfl) ?_
              refine WL_val rfl rfl rfl (st_as (v := .bool _) rfl) ?_
              refine WL_nil ?_
              refine W_ret ?_
              refine qr1 ?_
              exact ⟨rfl, hx⟩
            · have g53 := of_decide_eq_false h53
              refine WL_valg rfl rfl rfl (congrArg Value.bool h53) rfl rfl (st_mv (v := .int _ _) rfl) ?_
              refine WL_valg rfl rfl rfl (congrArg Value.bool h53) rfl rfl (st_eql rfl rfl) ?_
              refine WL_val rfl rfl rfl (st_pk_f (v := .bool _) (congrArg Value.bool h53) rfl) ?_
              refine WL_val rfl rfl rfl (st_as (v := .bool _) rfl) ?_
              refine WL_nil ?_
              refine W_ret ?_
              refine qr1 ?_
              exact ⟨vbool (decide_eq_true ((hps_check true false ps hck).elim (fun h => absurd h g50) (fun h => h.elim id (fun h => absurd h g53)))), hx⟩
          · have g50 := of_decide_eq_false h50
            refine W_skip ?_
            refine W_seq ?_
            have hckH : checkG ⟨true, false, (hpsL true false ps)⟩ = 0 := Decidable.not_not.1 g50
            have hsz14 := hx.size
            refine W_region ?_
            refine WL_val rfl rfl rfl (st_loada ⟨_, Tryd.underlying24, rfl⟩ ti24 rfl hb3.cells rfl) ?_
            refine WL_val rfl rfl rfl (st_mv (v := .string _) rfl) ?_
            refine WL_call rfl rfl rfl (Matches_ok true false ps n _ t m0 _ (Ext.cell hx hm) (by have := hx.size; omega) hps hc hl htx hts) (ent_go rfl) ?_
            rintro _ w52 ⟨bg, eg, rfl, hg, hx53⟩
            have hsX1 := Fro.size hx53
            replace hx := hx.ext hx53
            replace hps := hps.ext hx53
            replace hb3 := hb3.ext hx53
            replace hb7 := hb7.ext hx53
            replace hH := hH.ext hx53
            replace hxH := hxH.ext hx53
            refine WL_val rfl rfl rfl (st_mv (v := .tuple _) rfl) ?_
            refine WL_val rfl rfl rfl (st_extract rfl rfl) ?_
            refine WL_val rfl rfl rfl (st_extract rfl rfl) ?_
            refine WL_val rfl rfl rfl (st_as (v := .bool _) rfl) ?_
            refine WL_val rfl rfl rfl (st_as (v := .int _ _) rfl) ?_
            refine WL_nil ?_
            refine W_seq ?_
            refine W_region ?_
            refine WL_val rfl rfl rfl (st_loada ⟨_, Tryd.underlying24, rfl⟩ ti24 rfl hb7.cells rfl) ?_
            refine WL_val rfl rfl rfl (st_mv (v := .string _) rfl) ?_
            refine WL_call rfl rfl rfl (Matches_ok true false (hpsL true false ps) nH _ t m0 _ (Ext.cell hx hm) (by have := Fro.size hxH; omega) hH hcH hlH htH hts) (ent_go rfl) ?_
            rintro _ w54 ⟨bh, eh, rfl, hh, hx55⟩
            have hsX2 := Fro.size hx55
            replace hx := hx.ext hx55
            replace hps := hps.ext hx55
            replace hb3 := hb3.ext hx55
            replace hb7 := hb7.ext hx55
            replace hH := hH.ext hx55
            replace hxH := hxH.ext hx55
            refine WL_val rfl rfl rfl (st_mv (v := .tuple _) rfl) ?_
            refine WL_val rfl rfl rfl (st_extract rfl rfl) ?_
            refine WL_val rfl rfl rfl (st_extract rfl rfl) ?_
            refine WL_val rfl rfl rfl (st_as (v := .bool _) rfl) ?_
            refine WL_val rfl rfl rfl (st_as (v := .int _ _) rfl) ?_
            refine WL_nil ?_
            refine W_seq ?_
            refine W_seq ?_
            obtain ⟨rfl, rfl⟩ := top_m hck hckH hg hh
            refine W_region ?_
            refine WL_val rfl rfl rfl (st_mv (v := .int _ _) rfl) ?_
            refine WL_val rfl rfl rfl (st_mv (v := .int _ _) rfl) ?_
            refine WL_val rfl rfl rfl ((st_vb (b := false) (by simp) (st_neq rfl rfl))) ?_
            refine WL_val rfl rfl rfl (st_mv (v := .bool _) rfl) ?_
            refine WL_valg rfl rfl rfl rfl rfl rfl (st_mv (v := .bool _) rfl) ?_
            refine WL_valg rfl rfl rfl rfl rfl rfl (st_mv (v := .bool _) rfl) ?_
            refine WL_valg rfl rfl rfl rfl rfl rfl ((st_vb (b := false) (by simp) (st_neqb Tryd.underlying4 rfl rfl))) ?_
            refine WL_val rfl rfl rfl (st_pk_f (v := .bool _) rfl rfl) ?_
            refine WL_nil ?_
            refine W_no rfl ?_
            refine W_skip ?_
            refine W_seq ?_
            refine W_region ?_
            refine WL_val rfl rfl rfl (st_loada ⟨_, Tryd.underlying24, rfl⟩ ti24 rfl hb3.cells rfl) ?_
            refine WL_val rfl rfl rfl (st_mv (v := .string _) rfl) ?_
            refine WL_call rfl rfl rfl (Below_ok true false ps n _ d m0 _ (Ext.cell hx hm) (by have := hx.size; omega) hps hc hl htx hds hnst) (ent_go rfl) ?_
            rintro _ w56 ⟨bg2, eg2, rfl, hg2, hx57⟩
            have hsX3 := Fro.size hx57
            replace hx := hx.ext hx57
            replace hps := hps.ext hx57
            replace hb3 := hb3.ext hx57
            replace hb7 := hb7.ext hx57
            replace hH := hH.ext hx57
            replace hxH := hxH.ext hx57
            refine WL_val rfl rfl rfl (st_mv (v := .tuple _) rfl) ?_
            refine WL_val rfl rfl rfl (st_extract rfl rfl) ?_
            refine WL_val rfl rfl rfl (st_extract rfl rfl) ?_
            refine WL_val rfl rfl rfl (st_as (v := .bool _) rfl) ?_
            refine WL_val rfl rfl rfl (st_as (v := .int _ _) rfl) ?_
            refine WL_nil ?_
            refine W_seq ?_
            refine W_region ?_
            refine WL_val rfl rfl rfl (st_loada ⟨_, Tryd.underlying24, rfl⟩ ti24 rfl hb7.cells rfl) ?_
            refine WL_val rfl rfl rfl (st_mv (v := .string _) rfl) ?_
            refine WL_call rfl rfl rfl (Below_ok true false (hpsL true false ps) nH _ d m0 _ (Ext.cell hx hm) (by have := Fro.size hxH; omega) hH hcH hlH htH hds hsH) (ent_go rfl) ?_
            rintro _ w58 ⟨bh2, eh2, rfl, hh2, hx59⟩
            replace hx := hx.ext hx59
            replace hps := hps.ext hx59
            replace hb3 := hb3.ext hx59
            replace hb7 := hb7.ext hx59
            replace hH := hH.ext hx59
            replace hxH := hxH.ext hx59
            refine WL_val rfl rfl rfl (st_mv (v := .tuple _) rfl) ?_
            refine WL_val rfl rfl rfl (st_extract rfl rfl) ?_
            refine WL_val rfl rfl rfl (st_extract rfl rfl) ?_
            refine WL_val rfl rfl rfl (st_as (v := .bool _) rfl) ?_
            refine WL_val rfl rfl rfl (st_as (v := .int _ _) rfl) ?_
            refine WL_nil ?_
            refine W_seq ?_
            obtain ⟨rfl, rfl⟩ := top_b hck hckH hg2 hh2
            refine W_region ?_
            refine WL_val rfl rfl rfl (st_mv (v := .int _ _) rfl) ?_
            refine WL_val rfl rfl rfl (st_mv (v := .int _ _) rfl) ?_
            refine WL_val rfl rfl rfl ((st_vb (b := true) (by simp) (st_eql rfl rfl))) ?_
            refine WL_val rfl rfl rfl (st_mv (v := .bool _) rfl) ?_
            refine WL_valg rfl rfl rfl rfl rfl rfl (st_mv (v := .bool _) rfl) ?_
            refine WL_valg rfl rfl rfl rfl rfl rfl (st_mv (v := .bool _) rfl) ?_
            refine WL_valg rfl rfl rfl rfl rfl rfl ((st_vb (b := true) (by simp) (st_eqlb Tryd.underlying4 rfl rfl))) ?_
            refine WL_val rfl rfl rfl (st_pk_t (v := .bool _) rfl rfl) ?_
            refine WL_val rfl rfl rfl (st_as (v := .bool _) rfl) ?_
            refine WL_nil ?_
            refine W_ret ?_
            refine qr1 ?_
            exact ⟨rfl, hx⟩
    · refine WHi_ef (ef_alloc ti24) rfl rfl rfl rfl ?_
      rintro _ vA ⟨b7, rfl, hl7, hb7, hx7⟩
      have hl7q := hb7.lt
      have hcA := hcur.trans hx7
      replace hcur := hcA
      refine ⟨fun _ => hcur, ?_⟩
      refine WH_one (i := 4) (by kernel_rfl) ?_
      refine WHi_call rfl rfl rfl rfl (wParts_ok _ ps (Nat.lt_succ_self _) n _ _ (by have := hx.size; have := hcA.size; omega) (hps.ext hcA)) (ent_go rfl) ?_
      rintro rv vB ⟨hxB, hP⟩
      obtain ⟨a1, c1, rfl⟩ := hP.len
      have hb7 := hb7.ext hxB
      have hcB := hcA.trans hxB
      replace hcur := hcB
      refine ⟨fun _ => hcur, ?_⟩
      refine WH_take 5 rfl rfl rfl rfl (by kernel_rfl) (fun _ _ _ h => np1 h) hcur (fun w' hx' => st_build (pl := [(0, 1), (1, 1), (2, 1)]) (cs := [.bool rt, .bool false, .slice a1 ps.length c1]) ti24 Tryd.underlying24 (fun _ => by kernel_rfl) rfl) ?_
      refine WH_one (i := 7) (by kernel_rfl) ?_
      have hl7w : w6.heap.size ≤ b7 := by have := hc0.size; have := hcA.size; omega
      refine WHi_su (su_storea ti24 rfl hb7 rfl rfl (Nat.le_of_ble_eq_true rfl) rfl) rfl rfl rfl ?_
      rintro vC ⟨hnb, hf7⟩
      have hcC := Fro.trans_new hcB hf7 (fun _ e => by subst e; exact hl7w)
      refine ⟨fun h => absurd rfl h, ?_⟩
      refine WH_done (by kernel_rfl) ?_
      have hPX : PX b7 n5 vC (.slice a1 ps.length c1) ps := (POwn.px_before hP (by have := hcA.size; omega) hl7q).fro hf7
      replace hb7 : Blk vC b7 24 [.bool rt, .bool false, .slice a1 ps.length c1] := hnb
      clear hnb
      have h5v : n5 ≤ vC.heap.size := by have := hcC.size; omega
      replace hx := hx.trans hcC
      replace hps := hps.ext hcC
      replace hb3 := hb3.ext hcC
      refine W_seq ?_
      refine W_seq ?_
      refine W_region ?_
      refine WL_val rfl rfl rfl (st_fieldAddr (off := 0) Tryd.underlying24 rfl rfl ti4 rfl) ?_
      refine WL_val rfl rfl rfl (st_load ⟨_, Tryd.underlying4, rfl⟩ rfl (hb3.cell 0 rfl)) ?_
      refine WL_val rfl rfl rfl (st_not rfl) ?_
      refine WL_nil ?_
      refine W_cond rfl (fun h26 => ?_) (fun h26 => ?_)
      · have hrt : rt = false := not_t h26
        subst hrt
        refine W_seq ?_
        refine W_region ?_
        refine WL_val rfl rfl rfl (st_fieldAddr (off := 0) Tryd.underlying24 rfl rfl ti4 rfl) ?_
        refine WL_su (su_store ti4 rfl hb7 (Nat.le_of_ble_eq_true rfl) rfl rfl) rfl rfl ?_
        rintro w60 ⟨hnb, hf61⟩
        have hb7 : Blk w60 b7 24 [.bool true, .bool false, .slice a1 ps.length c1] := hnb
        clear hnb
        replace hPX := hPX.fro hf61
        replace hx := Fro.trans_new hx hf61 (fun _ e => by subst e; omega)
        have hb3 := hb3.fro hf61 (fun e => by have e' : b1 = b7 := e; omega)
        replace hps := PartsAt.fro hps hf61 (fun k hk e => by have h1 : k < n := hk; have e' : k = b7 := e; omega)
        refine WL_nil ?_
        refine W_held 10 9 (Ext w60) mixed rfl ?_
        intro w62 hcur hheap
        have hc0 := hcur
        have hb7q := hb7.lt
        refine WH_take 0 rfl rfl rfl rfl (by kernel_rfl) (fun _ _ _ h => np1 h) hcur (fun w' hx' => st_build (pl := [(0, 1), (1, 1), (2, 1), (3, 1), (4, 1)]) (cs := [.int .i64 4, .string ⟨#[]⟩, .bool false, .slice none 0 0, .slice none 0 0]) ti33 Tryd.underlying33 (fun _ => by kernel_rfl) rfl) ?_
        refine WH_take 1 rfl rfl rfl rfl (by kernel_rfl) (fun _ _ _ h => np1 h) hcur (fun w' hx' => st_build (pl := [(0, 1), (1, 1), (2, 1), (3, 1), (4, 1)]) (cs := [.int .i64 1, .string ⟨#[47]⟩, .bool false, .slice none 0 0, .slice none 0 0]) ti33 Tryd.underlying33 (fun _ => by kernel_rfl) rfl) ?_
        refine WH_take 5 rfl rfl rfl rfl (by kernel_rfl) (fun _ _ _ h => np1 h) hcur (fun w' hx' => st_fieldAddr (off := 2) Tryd.underlying24 rfl rfl ti22 rfl) ?_
        refine WH_take 6 rfl rfl rfl rfl (by kernel_rfl) (fun _ _ _ h => np1 h) hcur (fun w' hx' => st_load ⟨_, Tryd.underlying22, rfl⟩ rfl (hx'.cell (hb7.cell 2 rfl))) ?_
        refine WH_one (i := 2) (by kernel_rfl) ?_
        refine WHi_ef (ef_buildSlice (len := 2) (cs := [.int .i64 4, .string ⟨#[]⟩, .bool false, .slice none 0 0, .slice none 0 0, .int .i64 1, .string ⟨#[47]⟩, .bool false, .slice none 0 0, .slice none 0 0]) Tryd.underlying22 ti33 (by decide) (by decide) (by kernel_rfl)) rfl rfl rfl rfl ?_
        rintro _ vA ⟨gp, rfl, hgp, hbp, hxA⟩
        have hcA := hcur.trans hxA
        replace hcur := hcA
        refine ⟨fun _ => hcur, ?_⟩
        refine WH_one (i := 3) (by kernel_rfl) ?_
        refine WHi_ef (ef_buildSlice (len := 2) (cs := [.slice none 0 0, .slice (some ⟨gp, 0, none⟩) 2 2]) Tryd.underlying31 ti22 (by decide) (by decide) rfl) rfl rfl rfl rfl ?_
        rintro _ vB ⟨gw, rfl, hgw, hbw, hxB⟩
        have hcB := hcA.trans hxB
        have hs1 := hc0.size
        have hs2 := hcA.size
        have hs3 := hcB.size
        have hgpl := (hbp.ext hxB).lt
        replace hcur := hcB
        refine ⟨fun _ => hcur, ?_⟩
        refine WH_one (i := 4) (by kernel_rfl) ?_
        refine WHi_call rfl rfl rfl rfl (wWays_ok w62.heap.size _ [[], [deepP, slashP]] _ (by have := hxA.size; have := hxB.size; omega) (ways_lit (hbp.ext hxB) hbw ⟨hgp, hgpl⟩ ⟨by have := hxA.size; omega, hbw.lt⟩)) (ent_go rfl) ?_
        rintro rv vC ⟨hxC, hP⟩
        obtain ⟨aW, cW, rfl⟩ := hP.len
        have hcC := hcB.trans hxC
        replace hcur := hcC
        refine ⟨fun _ => hcur, ?_⟩
        refine WH_one (i := 7) (by kernel_rfl) ?_
        have hPq : POwn w62.heap.size vC (.slice aW 1 cW) [waysP] := hP
        have hsC := hcC.size
        have hsC2 : w62.heap.size ≤ vC.heap.size := by have := hxA.size; have := hxB.size; have := hxC.size; omega
        obtain ⟨css, g, hown, hg0, hPs, hgr⟩ := hPq.prep hsC2
        have hpl := len_sz ps
        obtain ⟨cs1, hA0, hP0⟩ := (hPX.ext hc0).parts (by omega)
        have hxABC := (hxA.trans hxB).trans hxC
        have hA1 := hA0.ext hxABC
        have hP1 := PartsAll.fro hxABC (fun _ _ f => f) _ _ hP0
        obtain ⟨hc1, hc5, hco⟩ := hP1.cells
        refine WHi_ef (ef_append (v := .slice aW 1 cW) (xv := .slice a1 ps.length c1) (n := 1) (m := cs1.length) (news := cs1.flatten) Tryd.underlying22 Tryd.underlying22 isSl_slice ti33 rfl rfl hown rfl (by rw [← hc1]; rw [← hc1] at hA1; exact arr_src hA1 hc5) (flat_len _ hc5) (all_flat hco) (by omega) (by omega)) rfl rfl rfl rfl ?_
        rintro v5 vD ⟨g5, hown5, hf5, hg5, _⟩
        have hPD : PX b7 n5 vD v5 (waysP :: ps) := PX.app (ps := [waysP]) (qs := ps) (css := css) (ds := cs1) (g := g) (by omega) hc1 (by omega) (by omega) (by omega) (PartsAll.mono (fun k hk => ⟨by have := hk.1; omega, hk.2.1, hk.2.2, by have := hk.1; omega⟩) _ _ hPs)
          (PartsAll.mono (fun k hk => ⟨hk.1, by have := hk.2.1; omega, by have := hk.2.1; omega, hk.2.2⟩) _ _ hP1) hown5 hf5 hg5
        obtain ⟨a5, c5, rfl⟩ := hPD.len
        have hcD := Fro.trans_new hcC hf5 (fun _ e => by subst e; omega)
        replace hcur := hcD
        refine ⟨fun _ => hcur, ?_⟩
        refine WH_take 8 rfl rfl rfl rfl (by kernel_rfl) (fun _ _ _ h => np1 h) hcur (fun w' hx' => st_fieldAddr (off := 2) Tryd.underlying24 rfl rfl ti22 rfl) ?_
        refine WH_one (i := 9) (by kernel_rfl) ?_
        have hb7D := hb7.ext hcD
        refine WHi_su (su_store ti22 rfl hb7D (Nat.le_of_ble_eq_true rfl) rfl rfl) rfl rfl rfl ?_
        rintro vE ⟨hnb, hfE⟩
        refine ⟨fun h => absurd rfl h, ?_⟩
        refine WH_done (by kernel_rfl) ?_
        replace hb7 : Blk vE b7 24 [.bool true, .bool false, .slice a5 (waysP :: ps).length c5] := hnb
        clear hnb
        replace hPX := hPD.fro hfE
        replace hx := Fro.trans_new (hx.trans hcD) hfE (fun _ e => by subst e; omega)
        replace hb3 := (hb3.ext hcD).fro hfE (fun e => by have e' : b1 = b7 := e; omega)
        replace hps := PartsAt.fro (hps.ext hcD) hfE (fun k hk e => by have h1 : k < n := hk; have e' : k = b7 := e; omega)
        refine W_seq ?_
        refine W_seq ?_
        refine W_region ?_
        refine WL_val rfl rfl rfl (st_fieldAddr (off := 1) Tryd.underlying24 rfl rfl ti4 rfl) ?_
        refine WL_val rfl rfl rfl (st_load ⟨_, Tryd.underlying4, rfl⟩ rfl (hb3.cell 1 rfl)) ?_
        refine WL_nil ?_
        refine W_cond rfl (fun h38 => ?_) (fun h38 => ?_)
        · subst h38
          refine W_region ?_
          refine WL_val rfl rfl rfl (st_fieldAddr (off := 2) Tryd.underlying24 rfl rfl ti22 rfl) ?_
          refine WL_val rfl rfl rfl (st_load ⟨_, Tryd.underlying22, rfl⟩ rfl (hb7.cell 2 rfl)) ?_
          refine WL_val rfl rfl rfl (st_build (pl := [(0, 1), (1, 1), (2, 1), (3, 1), (4, 1)]) (cs := [.int .i64 1, .string ⟨#[47]⟩, .bool false, .slice none 0 0, .slice none 0 0]) ti33 Tryd.underlying33 (fun _ => by kernel_rfl) rfl) ?_
          refine WL_val rfl rfl rfl (st_build (pl := [(0, 1), (1, 1), (2, 1), (3, 1), (4, 1)]) (cs := [.int .i64 4, .string ⟨#[]⟩, .bool false, .slice none 0 0, .slice none 0 0]) ti33 Tryd.underlying33 (fun _ => by kernel_rfl) rfl) ?_
          refine WL_ef (ef_buildSlice (len := 2) (cs := [.int .i64 1, .string ⟨#[47]⟩, .bool false, .slice none 0 0, .slice none 0 0, .int .i64 4, .string ⟨#[]⟩, .bool false, .slice none 0 0, .slice none 0 0]) Tryd.underlying22 ti33 (by decide) (by decide) (by kernel_rfl)) rfl rfl rfl ?_
          rintro _ vF ⟨gl, rfl, hgl, hbl, hxF⟩
          replace hx := hx.ext hxF
          replace hps := hps.ext hxF
          replace hb3 := hb3.ext hxF
          replace hb7 := hb7.ext hxF
          replace hPX := hPX.ext hxF
          have hsF := hx.size
          have hb7F := hb7.lt
          obtain ⟨css, g, hown, hg0, hgb, hPs, hgs⟩ := hPX.prep (by omega) hb7F
          have hpl := len_sz ps
          have hLl : (waysP :: ps).length ≤ ps.length + 1 := by simp
          refine WL_ef (ef_append (v := .slice a5 (waysP :: ps).length c5) (m := 2) (news := [.int .i64 1, .string ⟨#[47]⟩, .bool false, .slice none 0 0, .slice none 0 0, .int .i64 4, .string ⟨#[]⟩, .bool false, .slice none 0 0, .slice none 0 0]) Tryd.underlying22 Tryd.underlying22 isSl_slice ti33 rfl rfl hown rfl (src_slice (by rfl) (.inr ⟨gl, 0, rfl, hbl.cells⟩) (fun h => by cases h)) rfl rfl (by omega) (by omega)) rfl rfl rfl ?_
          rintro v6 vG ⟨g6, hown6, hf6, hg6, _⟩
          have hPG : PX b7 n5 vG v6 ((waysP :: ps) ++ [slashP, deepP]) := PX.app (ps := (waysP :: ps)) (qs := [slashP, deepP]) (css := css) (ds := [slashC, deepC]) (g := g) hb7F rfl hg0 hgb (by omega) hPs lit_two hown6 hf6 hg6
          obtain ⟨a6, c6, rfl⟩ := hPG.len
          replace hx := Fro.trans_new hx hf6 (fun _ e => by subst e; omega)
          have hb7 := hb7.fro hf6 (fun e => hgb e.symm)
          have hb3 := hb3.fro hf6 (fun e => by have e' : b1 = g := e; omega)
          replace hps := PartsAt.fro hps hf6 (fun k hk e => by have h1 : k < n := hk; have e' : k = g := e; omega)
          have hsG := hf6.size
          refine WL_call rfl rfl rfl (wJoined_ok (fun k => n5 ≤ k ∧ k < vG.heap.size ∧ k ≠ b7) _ ((waysP :: ps) ++ [slashP, deepP]) _ (fun k hk => hk.2.1) (hPG.parts (by have := len_sz ps; simp; omega)) (by have h1 := nstL_sz ((waysP :: ps) ++ [slashP, deepP]); rw [szL_append, szL_cons slashP, szL_cons deepP, szL_nil, sz_slash, sz_deep] at h1; rw [szL_cons waysP, sz_ways] at h1; omega)) (ent_go rfl) ?_
          rintro rv w63 ⟨hx64, hJ⟩
          obtain ⟨a8, c8, rfl, _⟩ := hJ.form
          have hsJ0 := Fro.size hx64
          replace hx := hx.ext hx64
          replace hps := hps.ext hx64
          replace hb3 := hb3.ext hx64
          replace hb7 := hb7.ext hx64
          refine WL_val rfl rfl rfl (st_fieldAddr (off := 2) Tryd.underlying24 rfl rfl ti22 rfl) ?_
          refine WL_su (su_store ti22 rfl hb7 (Nat.le_of_ble_eq_true rfl) rfl rfl) rfl rfl ?_
          rintro w65 ⟨hnb, hf66⟩
          have hb7 : Blk w65 b7 24 [.bool true, .bool false, .slice a8 (joinL ((waysP :: ps) ++ [slashP, deepP])).length c8] := hnb
          clear hnb
          replace hx := Fro.trans_new hx hf66 (fun _ e => by subst e; omega)
          have hb3 := hb3.fro hf66 (fun e => by have e' : b1 = b7 := e; omega)
          replace hps := PartsAt.fro hps hf66 (fun k hk e => by have h1 : k < n := hk; have e' : k = b7 := e; omega)
          replace hJ := PartsAt.fro hJ hf66 (fun k hk e => by
            have e' : k = b7 := e
            rcases hk with hk | hk
            · exact hk.2.2 e'
            · have := hk.1; omega)
          have hsJ := Fro.size hf66
          refine WL_nil ?_
          refine W_seq ?_
          refine W_seq ?_
          have hH : PartsAt (· < w65.heap.size) w65 (.slice a8 (joinL ((waysP :: ps) ++ [slashP, deepP])).length c8) (hpsL false true ps) := hJ.mono (fun k hk => by rcases hk with hk | hk; have := hk.2.1; show k < _; omega; have := hk.2; show k < _; omega)
          obtain ⟨nH, hnH⟩ : ∃ x, x = w65.heap.size := ⟨_, rfl⟩
          rw [← hnH] at hH
          have hzH := hps_sz false true ps
          have hcH : cntP (hpsL false true ps) ≤ 4611686018427387904 := by have := cntP_sz (hpsL false true ps); omega
          have hlH : (printL false (hpsL false true ps)).length ≤ 1000000000 := by have := printL_sz (hpsL false true ps) false; omega
          have htH : ∀ p ∈ (hpsL false true ps), p.text.size ≤ 1099511627776 := fun p hp => by have := text_sz hp; omega
          have hsH : nstL (hpsL false true ps) ≤ 400000000 := by have := nstL_sz (hpsL false true ps); omega
          have hnHs : nH ≤ w65.heap.size := by omega
          have hxH := Ext.refl w65
          refine W_region ?_
          refine WL_val rfl rfl rfl (st_loada ⟨_, Tryd.underlying24, rfl⟩ ti24 rfl hb7.cells rfl) ?_
          refine WL_call rfl rfl rfl (CheckGlob_ok true false (hpsL false true ps) nH _ _ hnHs hH hcH hlH htH) (ent_go rfl) ?_
          rintro _ w67 ⟨rfl, hx68⟩
          replace hx := hx.ext hx68
          replace hps := hps.ext hx68
          replace hb3 := hb3.ext hx68
          replace hb7 := hb7.ext hx68
          replace hH := hH.ext hx68
          replace hxH := hxH.ext hx68
          refine WL_val rfl rfl rfl (st_as (v := .int _ _) rfl) ?_
          refine WL_nil ?_
          refine W_seq ?_
          refine W_region ?_
          refine WL_val rfl rfl rfl (st_mv (v := .int _ _) rfl) ?_
          refine WL_val rfl rfl rfl (st_neq rfl rfl) ?_
          refine WL_nil ?_
          refine W_cond rfl (fun h50 => ?_) (fun h50 => ?_)
          · have g50 := of_decide_eq_true h50
            refine W_seq ?_
            refine W_region ?_
            refine WL_val rfl rfl rfl (st_mv (v := .int _ _) rfl) ?_
            refine WL_val rfl rfl rfl (st_eql rfl rfl) ?_
            refine WL_val rfl rfl rfl (st_mv (v := .bool _) rfl) ?_
            refine WL_split 53 rfl (fun h53 => ?_) (fun h53 => ?_)
            · have g53 := of_decide_eq_true h53
              refine WL_pass rfl rfl rfl (congrArg Value.bool h53) rfl rfl ?_
              refine WL_pass rfl rfl rfl (congrArg Value.bool h53) rfl rfl ?_
              refine WL_val rfl rfl rfl (st_pk_t (v := (.bool true)) (congrArg Value.bool h53) rfl) ?_
              refine WL_val rfl rfl rfl (st_as (v := .bool _) rfl) ?_
              refine WL_nil ?_
              refine W_ret ?_
              refine qr1 ?_
              exact ⟨rfl, hx⟩
            · have g53 := of_decide_eq_false h53
              refine WL_valg rfl rfl rfl (congrArg Value.bool h53) rfl rfl (st_mv (v := .int _ _) rfl) ?_
              refine WL_valg rfl rfl rfl (congrArg Value.bool h53) rfl rfl (st_eql rfl rfl) ?_
              refine WL_val rfl rfl rfl (st_pk_f (v := .bool _) (congrArg Value.bool h53) rfl) ?_
              refine WL_val rfl rfl rfl (st_as (v := .bool _) rfl) ?_
              refine WL_nil ?_
              refine W_ret ?_
              refine qr1 ?_
              exact ⟨vbool (decide_eq_true ((hps_check false true ps hck).elim (fun h => absurd h g50) (fun h => h.elim id (fun h => absurd h g53)))), hx⟩
          · have g50 := of_decide_eq_false h50
            refine W_skip ?_
            refine W_seq ?_
            have hckH : checkG ⟨true, false, (hpsL false true ps)⟩ = 0 := Decidable.not_not.1 g50
            have hsz14 := hx.size
            refine W_region ?_
            refine WL_val rfl rfl rfl (st_loada ⟨_, Tryd.underlying24, rfl⟩ ti24 rfl hb3.cells rfl) ?_
            refine WL_val rfl rfl rfl (st_mv (v := .string _) rfl) ?_
            refine WL_call rfl rfl rfl (Matches_ok false true ps n _ t m0 _ (Ext.cell hx hm) (by have := hx.size; omega) hps hc hl htx hts) (ent_go rfl) ?_
            rintro _ w69 ⟨bg, eg, rfl, hg, hx70⟩
            have hsX1 := Fro.size hx70
            replace hx := hx.ext hx70
            replace hps := hps.ext hx70
            replace hb3 := hb3.ext hx70
            replace hb7 := hb7.ext hx70
            replace hH := hH.ext hx70
            replace hxH := hxH.ext hx70
            refine WL_val rfl rfl rfl (st_mv (v := .tuple _) rfl) ?_
            refine WL_val rfl rfl rfl (st_extract rfl rfl) ?_
            refine WL_val rfl rfl rfl (st_extract rfl rfl) ?_
            refine WL_val rfl rfl rfl (st_as (v := .bool _) rfl) ?_
            refine WL_val rfl rfl rfl (st_as (v := .int _ _) rfl) ?_
            refine WL_nil ?_
            refine W_seq ?_
            refine W_region ?_
            refine WL_val rfl rfl rfl (st_loada ⟨_, Tryd.underlying24, rfl⟩ ti24 rfl hb7.cells rfl) ?_
            refine WL_val rfl rfl rfl (st_mv (v := .string _) rfl) ?_
            refine WL_call rfl rfl rfl (Matches_ok true false (hpsL false true ps) nH _ t m0 _ (Ext.cell hx hm) (by have := Fro.size hxH; omega) hH hcH hlH htH hts) (ent_go rfl) ?_
            rintro _ w71 ⟨bh, eh, rfl, hh, hx72⟩
            have hsX2 := Fro.size hx72
            replace hx := hx.ext hx72
            replace hps := hps.ext hx72
            replace hb3 := hb3.ext hx72
            replace hb7 := hb7.ext hx72
            replace hH := hH.ext hx72
            replace hxH := hxH.ext hx72
            refine WL_val rfl rfl rfl (st_mv (v := .tuple _) rfl) ?_
            refine WL_val rfl rfl rfl (st_extract rfl rfl) ?_
            refine WL_val rfl rfl rfl (st_extract rfl rfl) ?_
            refine WL_val rfl rfl rfl (st_as (v := .bool _) rfl) ?_
            refine WL_val rfl rfl rfl (st_as (v := .int _ _) rfl) ?_
            refine WL_nil ?_
            refine W_seq ?_
            refine W_seq ?_
            obtain ⟨rfl, rfl⟩ := top_m hck hckH hg hh
            refine W_region ?_
            refine WL_val rfl rfl rfl (st_mv (v := .int _ _) rfl) ?_
            refine WL_val rfl rfl rfl (st_mv (v := .int _ _) rfl) ?_
            refine WL_val rfl rfl rfl ((st_vb (b := false) (by simp) (st_neq rfl rfl))) ?_
            refine WL_val rfl rfl rfl (st_mv (v := .bool _) rfl) ?_
            refine WL_valg rfl rfl rfl rfl rfl rfl (st_mv (v := .bool _) rfl) ?_
            refine WL_valg rfl rfl rfl rfl rfl rfl (st_mv (v := .bool _) rfl) ?_
            refine WL_valg rfl rfl rfl rfl rfl rfl ((st_vb (b := false) (by simp) (st_neqb Tryd.underlying4 rfl rfl))) ?_
            refine WL_val rfl rfl rfl (st_pk_f (v := .bool _) rfl rfl) ?_
            refine WL_nil ?_
            refine W_no rfl ?_
            refine W_skip ?_
            refine W_seq ?_
            refine W_region ?_
            refine WL_val rfl rfl rfl (st_loada ⟨_, Tryd.underlying24, rfl⟩ ti24 rfl hb3.cells rfl) ?_
            refine WL_val rfl rfl rfl (st_mv (v := .string _) rfl) ?_
            refine WL_call rfl rfl rfl (Below_ok false true ps n _ d m0 _ (Ext.cell hx hm) (by have := hx.size; omega) hps hc hl htx hds hnst) (ent_go rfl) ?_
            rintro _ w73 ⟨bg2, eg2, rfl, hg2, hx74⟩
            have hsX3 := Fro.size hx74
            replace hx := hx.ext hx74
            replace hps := hps.ext hx74
            replace hb3 := hb3.ext hx74
            replace hb7 := hb7.ext hx74
            replace hH := hH.ext hx74
            replace hxH := hxH.ext hx74
            refine WL_val rfl rfl rfl (st_mv (v := .tuple _) rfl) ?_
            refine WL_val rfl rfl rfl (st_extract rfl rfl) ?_
            refine WL_val rfl rfl rfl (st_extract rfl rfl) ?_
            refine WL_val rfl rfl rfl (st_as (v := .bool _) rfl) ?_
            refine WL_val rfl rfl rfl (st_as (v := .int _ _) rfl) ?_
            refine WL_nil ?_
            refine W_seq ?_
            refine W_region ?_
            refine WL_val rfl rfl rfl (st_loada ⟨_, Tryd.underlying24, rfl⟩ ti24 rfl hb7.cells rfl) ?_
            refine WL_val rfl rfl rfl (st_mv (v := .string _) rfl) ?_
            refine WL_call rfl rfl rfl (Below_ok true false (hpsL false true ps) nH _ d m0 _ (Ext.cell hx hm) (by have := Fro.size hxH; omega) hH hcH hlH htH hds hsH) (ent_go rfl) ?_
            rintro _ w75 ⟨bh2, eh2, rfl, hh2, hx76⟩
            replace hx := hx.ext hx76
            replace hps := hps.ext hx76
            replace hb3 := hb3.ext hx76
            replace hb7 := hb7.ext hx76
            replace hH := hH.ext hx76
            replace hxH := hxH.ext hx76
            refine WL_val rfl rfl rfl (st_mv (v := .tuple _) rfl) ?_
            refine WL_val rfl rfl rfl (st_extract rfl rfl) ?_
            refine WL_val rfl rfl rfl (st_extract rfl rfl) ?_
            refine WL_val rfl rfl rfl (st_as (v := .bool _) rfl) ?_
            refine WL_val rfl rfl rfl (st_as (v := .int _ _) rfl) ?_
            refine WL_nil ?_
            refine W_seq ?_
            obtain ⟨rfl, rfl⟩ := top_b hck hckH hg2 hh2
            refine W_region ?_
            refine WL_val rfl rfl rfl (st_mv (v := .int _ _) rfl) ?_
            refine WL_val rfl rfl rfl (st_mv (v := .int _ _) rfl) ?_
            refine WL_val rfl rfl rfl ((st_vb (b := true) (by simp) (st_eql rfl rfl))) ?_
            refine WL_val rfl rfl rfl (st_mv (v := .bool _) rfl) ?_
            refine WL_valg rfl rfl rfl rfl rfl rfl (st_mv (v := .bool _) rfl) ?_
            refine WL_valg rfl rfl rfl rfl rfl rfl (st_mv (v := .bool _) rfl) ?_
            refine WL_valg rfl rfl rfl rfl rfl rfl ((st_vb (b := true) (by simp) (st_eqlb Tryd.underlying4 rfl rfl))) ?_
            refine WL_val rfl rfl rfl (st_pk_t (v := .bool _) rfl rfl) ?_
            refine WL_val rfl rfl rfl (st_as (v := .bool _) rfl) ?_
            refine WL_nil ?_
            refine W_ret ?_
            refine qr1 ?_
            exact ⟨rfl, hx⟩
        · subst h38
          refine W_skip ?_
          refine W_seq ?_
          refine W_seq ?_
          have hH : PartsAt (· < vE.heap.size) vE (.slice a5 (waysP :: ps).length c5) (hpsL false false ps) := (hPX.parts (by have := len_sz ps; simp; omega)).mono (fun k hk => hk.2.1)
          obtain ⟨nH, hnH⟩ : ∃ x, x = vE.heap.size := ⟨_, rfl⟩
          rw [← hnH] at hH
          have hzH := hps_sz false false ps
          have hcH : cntP (hpsL false false ps) ≤ 4611686018427387904 := by have := cntP_sz (hpsL false false ps); omega
          have hlH : (printL false (hpsL false false ps)).length ≤ 1000000000 := by have := printL_sz (hpsL false false ps) false; omega
          have htH : ∀ p ∈ (hpsL false false ps), p.text.size ≤ 1099511627776 := fun p hp => by have := text_sz hp; omega
          have hsH : nstL (hpsL false false ps) ≤ 400000000 := by have := nstL_sz (hpsL false false ps); omega
          have hnHs : nH ≤ vE.heap.size := by omega
          have hxH := Ext.refl vE
          refine W_region ?_
          refine WL_val rfl rfl rfl (st_loada ⟨_, Tryd.underlying24, rfl⟩ ti24 rfl hb7.cells rfl) ?_
          refine WL_call rfl rfl rfl (CheckGlob_ok true false (hpsL false false ps) nH _ _ hnHs hH hcH hlH htH) (ent_go rfl) ?_
          rintro _ w77 ⟨rfl, hx78⟩
          replace hx := hx.ext hx78
          replace hps := hps.ext hx78
          replace hb3 := hb3.ext hx78
          replace hb7 := hb7.ext hx78
          replace hH := hH.ext hx78
          replace hxH := hxH.ext hx78
          refine WL_val rfl rfl rfl (st_as (v := .int _ _) rfl) ?_
          refine WL_nil ?_
          refine W_seq ?_
          refine W_region ?_
          refine WL_val rfl rfl rfl (st_mv (v := .int _ _) rfl) ?_
          refine WL_val rfl rfl rfl (st_neq rfl rfl) ?_
          refine WL_nil ?_
          refine W_cond rfl (fun h50 => ?_) (fun h50 => ?_)
          · have g50 := of_decide_eq_true h50
            refine W_seq ?_
            refine W_region ?_
            refine WL_val rfl rfl rfl (st_mv (v := .int _ _) rfl) ?_
            refine WL_val rfl rfl rfl (st_eql rfl rfl) ?_
            refine WL_val rfl rfl rfl (st_mv (v := .bool _) rfl) ?_
            refine WL_split 53 rfl (fun h53 => ?_) (fun h53 => ?_)
            · have g53 := of_decide_eq_true h53
              refine WL_pass rfl rfl rfl (congrArg Value.bool h53) rfl rfl ?_
              refine WL_pass rfl rfl rfl (congrArg Value.bool h53) rfl rfl ?_
              refine WL_val rfl rfl rfl (st_pk_t (v := (.bool true)) (congrArg Value.bool h53) rfl) ?_
              refine WL_val rfl rfl rfl (st_as (v := .bool _) rfl) ?_
              refine WL_nil ?_
              refine W_ret ?_
              refine qr1 ?_
              exact ⟨rfl, hx⟩
            · have g53 := of_decide_eq_false h53
              refine WL_valg rfl rfl rfl (congrArg Value.bool h53) rfl rfl (st_mv (v := .int _ _) rfl) ?_
              refine WL_valg rfl rfl rfl (congrArg Value.bool h53) rfl rfl (st_eql rfl rfl) ?_
              refine WL_val rfl rfl rfl (st_pk_f (v := .bool _) (congrArg Value.bool h53) rfl) ?_
              refine WL_val rfl rfl rfl (st_as (v := .bool _) rfl) ?_
              refine WL_nil ?_
              refine W_ret ?_
              refine qr1 ?_
              exact ⟨vbool (decide_eq_true ((hps_check false false ps hck).elim (fun h => absurd h g50) (fun h => h.elim id (fun h => absurd h g53)))), hx⟩
          · have g50 := of_decide_eq_false h50
            refine W_skip ?_
            refine W_seq ?_
            have hckH : checkG ⟨true, false, (hpsL false false ps)⟩ = 0 := Decidable.not_not.1 g50
            have hsz14 := hx.size
            refine W_region ?_
            refine WL_val rfl rfl rfl (st_loada ⟨_, Tryd.underlying24, rfl⟩ ti24 rfl hb3.cells rfl) ?_
            refine WL_val rfl rfl rfl (st_mv (v := .string _) rfl) ?_
            refine WL_call rfl rfl rfl (Matches_ok false false ps n _ t m0 _ (Ext.cell hx hm) (by have := hx.size; omega) hps hc hl htx hts) (ent_go rfl) ?_
            rintro _ w79 ⟨bg, eg, rfl, hg, hx80⟩
            have hsX1 := Fro.size hx80
            replace hx := hx.ext hx80
            replace hps := hps.ext hx80
            replace hb3 := hb3.ext hx80
            replace hb7 := hb7.ext hx80
            replace hH := hH.ext hx80
            replace hxH := hxH.ext hx80
            refine WL_val rfl rfl rfl (st_mv (v := .tuple _) rfl) ?_
            refine WL_val rfl rfl rfl (st_extract rfl rfl) ?_
            refine WL_val rfl rfl rfl (st_extract rfl rfl) ?_
            refine WL_val rfl rfl rfl (st_as (v := .bool _) rfl) ?_
            refine WL_val rfl rfl rfl (st_as (v := .int _ _) rfl) ?_
            refine WL_nil ?_
            refine W_seq ?_
            refine W_region ?_
            refine WL_val rfl rfl rfl (st_loada ⟨_, Tryd.underlying24, rfl⟩ ti24 rfl hb7.cells rfl) ?_
            refine WL_val rfl rfl rfl (st_mv (v := .string _) rfl) ?_
            refine WL_call rfl rfl rfl (Matches_ok true false (hpsL false false ps) nH _ t m0 _ (Ext.cell hx hm) (by have := Fro.size hxH; omega) hH hcH hlH htH hts) (ent_go rfl) ?_
            rintro _ w81 ⟨bh, eh, rfl, hh, hx82⟩
            have hsX2 := Fro.size hx82
            replace hx := hx.ext hx82
            replace hps := hps.ext hx82
            replace hb3 := hb3.ext hx82
            replace hb7 := hb7.ext hx82
            replace hH := hH.ext hx82
            replace hxH := hxH.ext hx82
            refine WL_val rfl rfl rfl (st_mv (v := .tuple _) rfl) ?_
            refine WL_val rfl rfl rfl (st_extract rfl rfl) ?_
            refine WL_val rfl rfl rfl (st_extract rfl rfl) ?_
            refine WL_val rfl rfl rfl (st_as (v := .bool _) rfl) ?_
            refine WL_val rfl rfl rfl (st_as (v := .int _ _) rfl) ?_
            refine WL_nil ?_
            refine W_seq ?_
            refine W_seq ?_
            obtain ⟨rfl, rfl⟩ := top_m hck hckH hg hh
            refine W_region ?_
            refine WL_val rfl rfl rfl (st_mv (v := .int _ _) rfl) ?_
            refine WL_val rfl rfl rfl (st_mv (v := .int _ _) rfl) ?_
            refine WL_val rfl rfl rfl ((st_vb (b := false) (by simp) (st_neq rfl rfl))) ?_
            refine WL_val rfl rfl rfl (st_mv (v := .bool _) rfl) ?_
            refine WL_valg rfl rfl rfl rfl rfl rfl (st_mv (v := .bool _) rfl) ?_
            refine WL_valg rfl rfl rfl rfl rfl rfl (st_mv (v := .bool _) rfl) ?_
            refine WL_valg rfl rfl rfl rfl rfl rfl ((st_vb (b := false) (by simp) (st_neqb Tryd.underlying4 rfl rfl))) ?_
            refine WL_val rfl rfl rfl (st_pk_f (v := .bool _) rfl rfl) ?_
            refine WL_nil ?_
            refine W_no rfl ?_
            refine W_skip ?_
            refine W_seq ?_
            refine W_region ?_
            refine WL_val rfl rfl rfl (st_loada ⟨_, Tryd.underlying24, rfl⟩ ti24 rfl hb3.cells rfl) ?_
            refine WL_val rfl rfl rfl (st_mv (v := .string _) rfl) ?_
            refine WL_call rfl rfl rfl (Below_ok false false ps n _ d m0 _ (Ext.cell hx hm) (by have := hx.size; omega) hps hc hl htx hds hnst) (ent_go rfl) ?_
            rintro _ w83 ⟨bg2, eg2, rfl, hg2, hx84⟩
            have hsX3 := Fro.size hx84
            replace hx := hx.ext hx84
            replace hps := hps.ext hx84
            replace hb3 := hb3.ext hx84
            replace hb7 := hb7.ext hx84
            replace hH := hH.ext hx84
            replace hxH := hxH.ext hx84
            refine WL_val rfl rfl rfl (st_mv (v := .tuple _) rfl) ?_
            refine WL_val rfl rfl rfl (st_extract rfl rfl) ?_
            refine WL_val rfl rfl rfl (st_extract rfl rfl) ?_
            refine WL_val rfl rfl rfl (st_as (v := .bool _) rfl) ?_
            refine WL_val rfl rfl rfl (st_as (v := .int _ _) rfl) ?_
            refine WL_nil ?_
            refine W_seq ?_
            refine W_region ?_
            refine WL_val rfl rfl rfl (st_loada ⟨_, Tryd.underlying24, rfl⟩ ti24 rfl hb7.cells rfl) ?_
            refine WL_val rfl rfl rfl (st_mv (v := .string _) rfl) ?_
            refine WL_call rfl rfl rfl (Below_ok true false (hpsL false false ps) nH _ d m0 _ (Ext.cell hx hm) (by have := Fro.size hxH; omega) hH hcH hlH htH hds hsH) (ent_go rfl) ?_
            rintro _ w85 ⟨bh2, eh2, rfl, hh2, hx86⟩
            replace hx := hx.ext hx86
            replace hps := hps.ext hx86
            replace hb3 := hb3.ext hx86
            replace hb7 := hb7.ext hx86
            replace hH := hH.ext hx86
            replace hxH := hxH.ext hx86
            refine WL_val rfl rfl rfl (st_mv (v := .tuple _) rfl) ?_
            refine WL_val rfl rfl rfl (st_extract rfl rfl) ?_
            refine WL_val rfl rfl rfl (st_extract rfl rfl) ?_
            refine WL_val rfl rfl rfl (st_as (v := .bool _) rfl) ?_
            refine WL_val rfl rfl rfl (st_as (v := .int _ _) rfl) ?_
            refine WL_nil ?_
            refine W_seq ?_
            obtain ⟨rfl, rfl⟩ := top_b hck hckH hg2 hh2
            refine W_region ?_
            refine WL_val rfl rfl rfl (st_mv (v := .int _ _) rfl) ?_
            refine WL_val rfl rfl rfl (st_mv (v := .int _ _) rfl) ?_
            refine WL_val rfl rfl rfl ((st_vb (b := true) (by simp) (st_eql rfl rfl))) ?_
            refine WL_val rfl rfl rfl (st_mv (v := .bool _) rfl) ?_
            refine WL_valg rfl rfl rfl rfl rfl rfl (st_mv (v := .bool _) rfl) ?_
            refine WL_valg rfl rfl rfl rfl rfl rfl (st_mv (v := .bool _) rfl) ?_
            refine WL_valg rfl rfl rfl rfl rfl rfl ((st_vb (b := true) (by simp) (st_eqlb Tryd.underlying4 rfl rfl))) ?_
            refine WL_val rfl rfl rfl (st_pk_t (v := .bool _) rfl rfl) ?_
            refine WL_val rfl rfl rfl (st_as (v := .bool _) rfl) ?_
            refine WL_nil ?_
            refine W_ret ?_
            refine qr1 ?_
            exact ⟨rfl, hx⟩
      · have hrt : rt = true := not_f h26
        subst hrt
        refine W_skip ?_
        refine W_seq ?_
        refine W_seq ?_
        refine W_region ?_
        refine WL_val rfl rfl rfl (st_fieldAddr (off := 1) Tryd.underlying24 rfl rfl ti4 rfl) ?_
        refine WL_val rfl rfl rfl (st_load ⟨_, Tryd.underlying4, rfl⟩ rfl (hb3.cell 1 rfl)) ?_
        refine WL_nil ?_
        refine W_cond rfl (fun h38 => ?_) (fun h38 => ?_)
        · subst h38
          refine W_region ?_
          refine WL_val rfl rfl rfl (st_fieldAddr (off := 2) Tryd.underlying24 rfl rfl ti22 rfl) ?_
          refine WL_val rfl rfl rfl (st_load ⟨_, Tryd.underlying22, rfl⟩ rfl (hb7.cell 2 rfl)) ?_
          refine WL_val rfl rfl rfl (st_build (pl := [(0, 1), (1, 1), (2, 1), (3, 1), (4, 1)]) (cs := [.int .i64 1, .string ⟨#[47]⟩, .bool false, .slice none 0 0, .slice none 0 0]) ti33 Tryd.underlying33 (fun _ => by kernel_rfl) rfl) ?_
          refine WL_val rfl rfl rfl (st_build (pl := [(0, 1), (1, 1), (2, 1), (3, 1), (4, 1)]) (cs := [.int .i64 4, .string ⟨#[]⟩, .bool false, .slice none 0 0, .slice none 0 0]) ti33 Tryd.underlying33 (fun _ => by kernel_rfl) rfl) ?_
          refine WL_ef (ef_buildSlice (len := 2) (cs := [.int .i64 1, .string ⟨#[47]⟩, .bool false, .slice none 0 0, .slice none 0 0, .int .i64 4, .string ⟨#[]⟩, .bool false, .slice none 0 0, .slice none 0 0]) Tryd.underlying22 ti33 (by decide) (by decide) (by kernel_rfl)) rfl rfl rfl ?_
          rintro _ vF ⟨gl, rfl, hgl, hbl, hxF⟩
          replace hx := hx.ext hxF
          replace hps := hps.ext hxF
          replace hb3 := hb3.ext hxF
          replace hb7 := hb7.ext hxF
          replace hPX := hPX.ext hxF
          have hsF := hx.size
          have hb7F := hb7.lt
          obtain ⟨css, g, hown, hg0, hgb, hPs, hgs⟩ := hPX.prep (by omega) hb7F
          have hpl := len_sz ps
          have hLl : ps.length ≤ ps.length + 1 := by simp
          refine WL_ef (ef_append (v := .slice a1 ps.length c1) (m := 2) (news := [.int .i64 1, .string ⟨#[47]⟩, .bool false, .slice none 0 0, .slice none 0 0, .int .i64 4, .string ⟨#[]⟩, .bool false, .slice none 0 0, .slice none 0 0]) Tryd.underlying22 Tryd.underlying22 isSl_slice ti33 rfl rfl hown rfl (src_slice (by rfl) (.inr ⟨gl, 0, rfl, hbl.cells⟩) (fun h => by cases h)) rfl rfl (by omega) (by omega)) rfl rfl rfl ?_
          rintro v6 vG ⟨g6, hown6, hf6, hg6, _⟩
          have hPG : PX b7 n5 vG v6 (ps ++ [slashP, deepP]) := PX.app (ps := ps) (qs := [slashP, deepP]) (css := css) (ds := [slashC, deepC]) (g := g) hb7F rfl hg0 hgb (by omega) hPs lit_two hown6 hf6 hg6
          obtain ⟨a6, c6, rfl⟩ := hPG.len
          replace hx := Fro.trans_new hx hf6 (fun _ e => by subst e; omega)
          have hb7 := hb7.fro hf6 (fun e => hgb e.symm)
          have hb3 := hb3.fro hf6 (fun e => by have e' : b1 = g := e; omega)
          replace hps := PartsAt.fro hps hf6 (fun k hk e => by have h1 : k < n := hk; have e' : k = g := e; omega)
          have hsG := hf6.size
          refine WL_call rfl rfl rfl (wJoined_ok (fun k => n5 ≤ k ∧ k < vG.heap.size ∧ k ≠ b7) _ (ps ++ [slashP, deepP]) _ (fun k hk => hk.2.1) (hPG.parts (by have := len_sz ps; simp; omega)) (by have h1 := nstL_sz (ps ++ [slashP, deepP]); rw [szL_append, szL_cons slashP, szL_cons deepP, szL_nil, sz_slash, sz_deep] at h1;  omega)) (ent_go rfl) ?_
          rintro rv w87 ⟨hx88, hJ⟩
          obtain ⟨a8, c8, rfl, _⟩ := hJ.form
          have hsJ0 := Fro.size hx88
          replace hx := hx.ext hx88
          replace hps := hps.ext hx88
          replace hb3 := hb3.ext hx88
          replace hb7 := hb7.ext hx88
          refine WL_val rfl rfl rfl (st_fieldAddr (off := 2) Tryd.underlying24 rfl rfl ti22 rfl) ?_
          refine WL_su (su_store ti22 rfl hb7 (Nat.le_of_ble_eq_true rfl) rfl rfl) rfl rfl ?_
          rintro w89 ⟨hnb, hf90⟩
          have hb7 : Blk w89 b7 24 [.bool true, .bool false, .slice a8 (joinL (ps ++ [slashP, deepP])).length c8] := hnb
          clear hnb
          replace hx := Fro.trans_new hx hf90 (fun _ e => by subst e; omega)
          have hb3 := hb3.fro hf90 (fun e => by have e' : b1 = b7 := e; omega)
          replace hps := PartsAt.fro hps hf90 (fun k hk e => by have h1 : k < n := hk; have e' : k = b7 := e; omega)
          replace hJ := PartsAt.fro hJ hf90 (fun k hk e => by
            have e' : k = b7 := e
            rcases hk with hk | hk
            · exact hk.2.2 e'
            · have := hk.1; omega)
          have hsJ := Fro.size hf90
          refine WL_nil ?_
          refine W_seq ?_
          refine W_seq ?_
          have hH : PartsAt (· < w89.heap.size) w89 (.slice a8 (joinL (ps ++ [slashP, deepP])).length c8) (hpsL true true ps) := hJ.mono (fun k hk => by rcases hk with hk | hk; have := hk.2.1; show k < _; omega; have := hk.2; show k < _; omega)
          obtain ⟨nH, hnH⟩ : ∃ x, x = w89.heap.size := ⟨_, rfl⟩
          rw [← hnH] at hH
          have hzH := hps_sz true true ps
          have hcH : cntP (hpsL true true ps) ≤ 4611686018427387904 := by have := cntP_sz (hpsL true true ps); omega
          have hlH : (printL false (hpsL true true ps)).length ≤ 1000000000 := by have := printL_sz (hpsL true true ps) false; omega
          have htH : ∀ p ∈ (hpsL true true ps), p.text.size ≤ 1099511627776 := fun p hp => by have := text_sz hp; omega
          have hsH : nstL (hpsL true true ps) ≤ 400000000 := by have := nstL_sz (hpsL true true ps); omega
          have hnHs : nH ≤ w89.heap.size := by omega
          have hxH := Ext.refl w89
          refine W_region ?_
          refine WL_val rfl rfl rfl (st_loada ⟨_, Tryd.underlying24, rfl⟩ ti24 rfl hb7.cells rfl) ?_
          refine WL_call rfl rfl rfl (CheckGlob_ok true false (hpsL true true ps) nH _ _ hnHs hH hcH hlH htH) (ent_go rfl) ?_
          rintro _ w91 ⟨rfl, hx92⟩
          replace hx := hx.ext hx92
          replace hps := hps.ext hx92
          replace hb3 := hb3.ext hx92
          replace hb7 := hb7.ext hx92
          replace hH := hH.ext hx92
          replace hxH := hxH.ext hx92
          refine WL_val rfl rfl rfl (st_as (v := .int _ _) rfl) ?_
          refine WL_nil ?_
          refine W_seq ?_
          refine W_region ?_
          refine WL_val rfl rfl rfl (st_mv (v := .int _ _) rfl) ?_
          refine WL_val rfl rfl rfl (st_neq rfl rfl) ?_
          refine WL_nil ?_
          refine W_cond rfl (fun h50 => ?_) (fun h50 => ?_)
          · have g50 := of_decide_eq_true h50
            refine W_seq ?_
            refine W_region ?_
            refine WL_val rfl rfl rfl (st_mv (v := .int _ _) rfl) ?_
            refine WL_val rfl rfl rfl (st_eql rfl rfl) ?_
            refine WL_val rfl rfl rfl (st_mv (v := .bool _) rfl) ?_
            refine WL_split 53 rfl (fun h53 => ?_) (fun h53 => ?_)
            · have g53 := of_decide_eq_true h53
              refine WL_pass rfl rfl rfl (congrArg Value.bool h53) rfl rfl ?_
              refine WL_pass rfl rfl rfl (congrArg Value.bool h53) rfl rfl ?_
              refine WL_val rfl rfl rfl (st_pk_t (v := (.bool true)) (congrArg Value.bool h53) rfl) ?_
              refine WL_val rfl rfl rfl (st_as (v := .bool _) rfl) ?_
              refine WL_nil ?_
              refine W_ret ?_
              refine qr1 ?_
              exact ⟨rfl, hx⟩
            · have g53 := of_decide_eq_false h53
              refine WL_valg rfl rfl rfl (congrArg Value.bool h53) rfl rfl (st_mv (v := .int _ _) rfl) ?_
              refine WL_valg rfl rfl rfl (congrArg Value.bool h53) rfl rfl (st_eql rfl rfl) ?_
              refine WL_val rfl rfl rfl (st_pk_f (v := .bool _) (congrArg Value.bool h53) rfl) ?_
              refine WL_val rfl rfl rfl (st_as (v := .bool _) rfl) ?_
              refine WL_nil ?_
              refine W_ret ?_
              refine qr1 ?_
              exact ⟨vbool (decide_eq_true ((hps_check true true ps hck).elim (fun h => absurd h g50) (fun h => h.elim id (fun h => absurd h g53)))), hx⟩
          · have g50 := of_decide_eq_false h50
            refine W_skip ?_
            refine W_seq ?_
            have hckH : checkG ⟨true, false, (hpsL true true ps)⟩ = 0 := Decidable.not_not.1 g50
            have hsz14 := hx.size
            refine W_region ?_
            refine WL_val rfl rfl rfl (st_loada ⟨_, Tryd.underlying24, rfl⟩ ti24 rfl hb3.cells rfl) ?_
            refine WL_val rfl rfl rfl (st_mv (v := .string _) rfl) ?_
            refine WL_call rfl rfl rfl (Matches_ok true true ps n _ t m0 _ (Ext.cell hx hm) (by have := hx.size; omega) hps hc hl htx hts) (ent_go rfl) ?_
            rintro _ w93 ⟨bg, eg, rfl, hg, hx94⟩
            have hsX1 := Fro.size hx94
            replace hx := hx.ext hx94
            replace hps := hps.ext hx94
            replace hb3 := hb3.ext hx94
            replace hb7 := hb7.ext hx94
            replace hH := hH.ext hx94
            replace hxH := hxH.ext hx94
            refine WL_val rfl rfl rfl (st_mv (v := .tuple _) rfl) ?_
            refine WL_val rfl rfl rfl (st_extract rfl rfl) ?_
            refine WL_val rfl rfl rfl (st_extract rfl rfl) ?_
            refine WL_val rfl rfl rfl (st_as (v := .bool _) rfl) ?_
            refine WL_val rfl rfl rfl (st_as (v := .int _ _) rfl) ?_
            refine WL_nil ?_
            refine W_seq ?_
            refine W_region ?_
            refine WL_val rfl rfl rfl (st_loada ⟨_, Tryd.underlying24, rfl⟩ ti24 rfl hb7.cells rfl) ?_
            refine WL_val rfl rfl rfl (st_mv (v := .string _) rfl) ?_
            refine WL_call rfl rfl rfl (Matches_ok true false (hpsL true true ps) nH _ t m0 _ (Ext.cell hx hm) (by have := Fro.size hxH; omega) hH hcH hlH htH hts) (ent_go rfl) ?_
            rintro _ w95 ⟨bh, eh, rfl, hh, hx96⟩
            have hsX2 := Fro.size hx96
            replace hx := hx.ext hx96
            replace hps := hps.ext hx96
            replace hb3 := hb3.ext hx96
            replace hb7 := hb7.ext hx96
            replace hH := hH.ext hx96
            replace hxH := hxH.ext hx96
            refine WL_val rfl rfl rfl (st_mv (v := .tuple _) rfl) ?_
            refine WL_val rfl rfl rfl (st_extract rfl rfl) ?_
            refine WL_val rfl rfl rfl (st_extract rfl rfl) ?_
            refine WL_val rfl rfl rfl (st_as (v := .bool _) rfl) ?_
            refine WL_val rfl rfl rfl (st_as (v := .int _ _) rfl) ?_
            refine WL_nil ?_
            refine W_seq ?_
            refine W_seq ?_
            obtain ⟨rfl, rfl⟩ := top_m hck hckH hg hh
            refine W_region ?_
            refine WL_val rfl rfl rfl (st_mv (v := .int _ _) rfl) ?_
            refine WL_val rfl rfl rfl (st_mv (v := .int _ _) rfl) ?_
            refine WL_val rfl rfl rfl ((st_vb (b := false) (by simp) (st_neq rfl rfl))) ?_
            refine WL_val rfl rfl rfl (st_mv (v := .bool _) rfl) ?_
            refine WL_valg rfl rfl rfl rfl rfl rfl (st_mv (v := .bool _) rfl) ?_
            refine WL_valg rfl rfl rfl rfl rfl rfl (st_mv (v := .bool _) rfl) ?_
            refine WL_valg rfl rfl rfl rfl rfl rfl ((st_vb (b := false) (by simp) (st_neqb Tryd.underlying4 rfl rfl))) ?_
            refine WL_val rfl rfl rfl (st_pk_f (v := .bool _) rfl rfl) ?_
            refine WL_nil ?_
            refine W_no rfl ?_
            refine W_skip ?_
            refine W_seq ?_
            refine W_region ?_
            refine WL_val rfl rfl rfl (st_loada ⟨_, Tryd.underlying24, rfl⟩ ti24 rfl hb3.cells rfl) ?_
            refine WL_val rfl rfl rfl (st_mv (v := .string _) rfl) ?_
            refine WL_call rfl rfl rfl (Below_ok true true ps n _ d m0 _ (Ext.cell hx hm) (by have := hx.size; omega) hps hc hl htx hds hnst) (ent_go rfl) ?_
            rintro _ w97 ⟨bg2, eg2, rfl, hg2, hx98⟩
            have hsX3 := Fro.size hx98
            replace hx := hx.ext hx98
            replace hps := hps.ext hx98
            replace hb3 := hb3.ext hx98
            replace hb7 := hb7.ext hx98
            replace hH := hH.ext hx98
            replace hxH := hxH.ext hx98
            refine WL_val rfl rfl rfl (st_mv (v := .tuple _) rfl) ?_
            refine WL_val rfl rfl rfl (st_extract rfl rfl) ?_
            refine WL_val rfl rfl rfl (st_extract rfl rfl) ?_
            refine WL_val rfl rfl rfl (st_as (v := .bool _) rfl) ?_
            refine WL_val rfl rfl rfl (st_as (v := .int _ _) rfl) ?_
            refine WL_nil ?_
            refine W_seq ?_
            refine W_region ?_
            refine WL_val rfl rfl rfl (st_loada ⟨_, Tryd.underlying24, rfl⟩ ti24 rfl hb7.cells rfl) ?_
            refine WL_val rfl rfl rfl (st_mv (v := .string _) rfl) ?_
            refine WL_call rfl rfl rfl (Below_ok true false (hpsL true true ps) nH _ d m0 _ (Ext.cell hx hm) (by have := Fro.size hxH; omega) hH hcH hlH htH hds hsH) (ent_go rfl) ?_
            rintro _ w99 ⟨bh2, eh2, rfl, hh2, hx100⟩
            replace hx := hx.ext hx100
            replace hps := hps.ext hx100
            replace hb3 := hb3.ext hx100
            replace hb7 := hb7.ext hx100
            replace hH := hH.ext hx100
            replace hxH := hxH.ext hx100
            refine WL_val rfl rfl rfl (st_mv (v := .tuple _) rfl) ?_
            refine WL_val rfl rfl rfl (st_extract rfl rfl) ?_
            refine WL_val rfl rfl rfl (st_extract rfl rfl) ?_
            refine WL_val rfl rfl rfl (st_as (v := .bool _) rfl) ?_
            refine WL_val rfl rfl rfl (st_as (v := .int _ _) rfl) ?_
            refine WL_nil ?_
            refine W_seq ?_
            obtain ⟨rfl, rfl⟩ := top_b hck hckH hg2 hh2
            refine W_region ?_
            refine WL_val rfl rfl rfl (st_mv (v := .int _ _) rfl) ?_
            refine WL_val rfl rfl rfl (st_mv (v := .int _ _) rfl) ?_
            refine WL_val rfl rfl rfl ((st_vb (b := true) (by simp) (st_eql rfl rfl))) ?_
            refine WL_val rfl rfl rfl (st_mv (v := .bool _) rfl) ?_
            refine WL_valg rfl rfl rfl rfl rfl rfl (st_mv (v := .bool _) rfl) ?_
            refine WL_valg rfl rfl rfl rfl rfl rfl (st_mv (v := .bool _) rfl) ?_
            refine WL_valg rfl rfl rfl rfl rfl rfl ((st_vb (b := true) (by simp) (st_eqlb Tryd.underlying4 rfl rfl))) ?_
            refine WL_val rfl rfl rfl (st_pk_t (v := .bool _) rfl rfl) ?_
            refine WL_val rfl rfl rfl (st_as (v := .bool _) rfl) ?_
            refine WL_nil ?_
            refine W_ret ?_
            refine qr1 ?_
            exact ⟨rfl, hx⟩
        · subst h38
          refine W_skip ?_
          refine W_seq ?_
          refine W_seq ?_
          have hH : PartsAt (· < vC.heap.size) vC (.slice a1 ps.length c1) (hpsL true false ps) := (hPX.parts (by have := len_sz ps; simp; omega)).mono (fun k hk => hk.2.1)
          obtain ⟨nH, hnH⟩ : ∃ x, x = vC.heap.size := ⟨_, rfl⟩
          rw [← hnH] at hH
          have hzH := hps_sz true false ps
          have hcH : cntP (hpsL true false ps) ≤ 4611686018427387904 := by have := cntP_sz (hpsL true false ps); omega
          have hlH : (printL false (hpsL true false ps)).length ≤ 1000000000 := by have := printL_sz (hpsL true false ps) false; omega
          have htH : ∀ p ∈ (hpsL true false ps), p.text.size ≤ 1099511627776 := fun p hp => by have := text_sz hp; omega
          have hsH : nstL (hpsL true false ps) ≤ 400000000 := by have := nstL_sz (hpsL true false ps); omega
          have hnHs : nH ≤ vC.heap.size := by omega
          have hxH := Ext.refl vC
          refine W_region ?_
          refine WL_val rfl rfl rfl (st_loada ⟨_, Tryd.underlying24, rfl⟩ ti24 rfl hb7.cells rfl) ?_
          refine WL_call rfl rfl rfl (CheckGlob_ok true false (hpsL true false ps) nH _ _ hnHs hH hcH hlH htH) (ent_go rfl) ?_
          rintro _ w101 ⟨rfl, hx102⟩
          replace hx := hx.ext hx102
          replace hps := hps.ext hx102
          replace hb3 := hb3.ext hx102
          replace hb7 := hb7.ext hx102
          replace hH := hH.ext hx102
          replace hxH := hxH.ext hx102
          refine WL_val rfl rfl rfl (st_as (v := .int _ _) rfl) ?_
          refine WL_nil ?_
          refine W_seq ?_
          refine W_region ?_
          refine WL_val rfl rfl rfl (st_mv (v := .int _ _) rfl) ?_
          refine WL_val rfl rfl rfl (st_neq rfl rfl) ?_
          refine WL_nil ?_
          refine W_cond rfl (fun h50 => ?_) (fun h50 => ?_)
          · have g50 := of_decide_eq_true h50
            refine W_seq ?_
            refine W_region ?_
            refine WL_val rfl rfl rfl (st_mv (v := .int _ _) rfl) ?_
            refine WL_val rfl rfl rfl (st_eql rfl rfl) ?_
            refine WL_val rfl rfl rfl (st_mv (v := .bool _) rfl) ?_
            refine WL_split 53 rfl (fun h53 => ?_) (fun h53 => ?_)
            · have g53 := of_decide_eq_true h53
              refine WL_pass rfl rfl rfl (congrArg Value.bool h53) rfl rfl ?_
              refine WL_pass rfl rfl rfl (congrArg Value.bool h53) rfl rfl ?_
              refine WL_val rfl rfl rfl (st_pk_t (v := (.bool true)) (congrArg Value.bool h53) rfl) ?_
              refine WL_val rfl rfl rfl (st_as (v := .bool _) rfl) ?_
              refine WL_nil ?_
              refine W_ret ?_
              refine qr1 ?_
              exact ⟨rfl, hx⟩
            · have g53 := of_decide_eq_false h53
              refine WL_valg rfl rfl rfl (congrArg Value.bool h53) rfl rfl (st_mv (v := .int _ _) rfl) ?_
              refine WL_valg rfl rfl rfl (congrArg Value.bool h53) rfl rfl (st_eql rfl rfl) ?_
              refine WL_val rfl rfl rfl (st_pk_f (v := .bool _) (congrArg Value.bool h53) rfl) ?_
              refine WL_val rfl rfl rfl (st_as (v := .bool _) rfl) ?_
              refine WL_nil ?_
              refine W_ret ?_
              refine qr1 ?_
              exact ⟨vbool (decide_eq_true ((hps_check true false ps hck).elim (fun h => absurd h g50) (fun h => h.elim id (fun h => absurd h g53)))), hx⟩
          · have g50 := of_decide_eq_false h50
            refine W_skip ?_
            refine W_seq ?_
            have hckH : checkG ⟨true, false, (hpsL true false ps)⟩ = 0 := Decidable.not_not.1 g50
            have hsz14 := hx.size
            refine W_region ?_
            refine WL_val rfl rfl rfl (st_loada ⟨_, Tryd.underlying24, rfl⟩ ti24 rfl hb3.cells rfl) ?_
            refine WL_val rfl rfl rfl (st_mv (v := .string _) rfl) ?_
            refine WL_call rfl rfl rfl (Matches_ok true false ps n _ t m0 _ (Ext.cell hx hm) (by have := hx.size; omega) hps hc hl htx hts) (ent_go rfl) ?_
            rintro _ w103 ⟨bg, eg, rfl, hg, hx104⟩
            have hsX1 := Fro.size hx104
            replace hx := hx.ext hx104
            replace hps := hps.ext hx104
            replace hb3 := hb3.ext hx104
            replace hb7 := hb7.ext hx104
            replace hH := hH.ext hx104
            replace hxH := hxH.ext hx104
            refine WL_val rfl rfl rfl (st_mv (v := .tuple _) rfl) ?_
            refine WL_val rfl rfl rfl (st_extract rfl rfl) ?_
            refine WL_val rfl rfl rfl (st_extract rfl rfl) ?_
            refine WL_val rfl rfl rfl (st_as (v := .bool _) rfl) ?_
            refine WL_val rfl rfl rfl (st_as (v := .int _ _) rfl) ?_
            refine WL_nil ?_
            refine W_seq ?_
            refine W_region ?_
            refine WL_val rfl rfl rfl (st_loada ⟨_, Tryd.underlying24, rfl⟩ ti24 rfl hb7.cells rfl) ?_
            refine WL_val rfl rfl rfl (st_mv (v := .string _) rfl) ?_
            refine WL_call rfl rfl rfl (Matches_ok true false (hpsL true false ps) nH _ t m0 _ (Ext.cell hx hm) (by have := Fro.size hxH; omega) hH hcH hlH htH hts) (ent_go rfl) ?_
            rintro _ w105 ⟨bh, eh, rfl, hh, hx106⟩
            have hsX2 := Fro.size hx106
            replace hx := hx.ext hx106
            replace hps := hps.ext hx106
            replace hb3 := hb3.ext hx106
            replace hb7 := hb7.ext hx106
            replace hH := hH.ext hx106
            replace hxH := hxH.ext hx106
            refine WL_val rfl rfl rfl (st_mv (v := .tuple _) rfl) ?_
            refine WL_val rfl rfl rfl (st_extract rfl rfl) ?_
            refine WL_val rfl rfl rfl (st_extract rfl rfl) ?_
            refine WL_val rfl rfl rfl (st_as (v := .bool _) rfl) ?_
            refine WL_val rfl rfl rfl (st_as (v := .int _ _) rfl) ?_
            refine WL_nil ?_
            refine W_seq ?_
            refine W_seq ?_
            obtain ⟨rfl, rfl⟩ := top_m hck hckH hg hh
            refine W_region ?_
            refine WL_val rfl rfl rfl (st_mv (v := .int _ _) rfl) ?_
            refine WL_val rfl rfl rfl (st_mv (v := .int _ _) rfl) ?_
            refine WL_val rfl rfl rfl ((st_vb (b := false) (by simp) (st_neq rfl rfl))) ?_
            refine WL_val rfl rfl rfl (st_mv (v := .bool _) rfl) ?_
            refine WL_valg rfl rfl rfl rfl rfl rfl (st_mv (v := .bool _) rfl) ?_
            refine WL_valg rfl rfl rfl rfl rfl rfl (st_mv (v := .bool _) rfl) ?_
            refine WL_valg rfl rfl rfl rfl rfl rfl ((st_vb (b := false) (by simp) (st_neqb Tryd.underlying4 rfl rfl))) ?_
            refine WL_val rfl rfl rfl (st_pk_f (v := .bool _) rfl rfl) ?_
            refine WL_nil ?_
            refine W_no rfl ?_
            refine W_skip ?_
            refine W_seq ?_
            refine W_region ?_
            refine WL_val rfl rfl rfl (st_loada ⟨_, Tryd.underlying24, rfl⟩ ti24 rfl hb3.cells rfl) ?_
            refine WL_val rfl rfl rfl (st_mv (v := .string _) rfl) ?_
            refine WL_call rfl rfl rfl (Below_ok true false ps n _ d m0 _ (Ext.cell hx hm) (by have := hx.size; omega) hps hc hl htx hds hnst) (ent_go rfl) ?_
            rintro _ w107 ⟨bg2, eg2, rfl, hg2, hx108⟩
            have hsX3 := Fro.size hx108
            replace hx := hx.ext hx108
            replace hps := hps.ext hx108
            replace hb3 := hb3.ext hx108
            replace hb7 := hb7.ext hx108
            replace hH := hH.ext hx108
            replace hxH := hxH.ext hx108
            refine WL_val rfl rfl rfl (st_mv (v := .tuple _) rfl) ?_
            refine WL_val rfl rfl rfl (st_extract rfl rfl) ?_
            refine WL_val rfl rfl rfl (st_extract rfl rfl) ?_
            refine WL_val rfl rfl rfl (st_as (v := .bool _) rfl) ?_
            refine WL_val rfl rfl rfl (st_as (v := .int _ _) rfl) ?_
            refine WL_nil ?_
            refine W_seq ?_
            refine W_region ?_
            refine WL_val rfl rfl rfl (st_loada ⟨_, Tryd.underlying24, rfl⟩ ti24 rfl hb7.cells rfl) ?_
            refine WL_val rfl rfl rfl (st_mv (v := .string _) rfl) ?_
            refine WL_call rfl rfl rfl (Below_ok true false (hpsL true false ps) nH _ d m0 _ (Ext.cell hx hm) (by have := Fro.size hxH; omega) hH hcH hlH htH hds hsH) (ent_go rfl) ?_
            rintro _ w109 ⟨bh2, eh2, rfl, hh2, hx110⟩
            replace hx := hx.ext hx110
            replace hps := hps.ext hx110
            replace hb3 := hb3.ext hx110
            replace hb7 := hb7.ext hx110
            replace hH := hH.ext hx110
            replace hxH := hxH.ext hx110
            refine WL_val rfl rfl rfl (st_mv (v := .tuple _) rfl) ?_
            refine WL_val rfl rfl rfl (st_extract rfl rfl) ?_
            refine WL_val rfl rfl rfl (st_extract rfl rfl) ?_
            refine WL_val rfl rfl rfl (st_as (v := .bool _) rfl) ?_
            refine WL_val rfl rfl rfl (st_as (v := .int _ _) rfl) ?_
            refine WL_nil ?_
            refine W_seq ?_
            obtain ⟨rfl, rfl⟩ := top_b hck hckH hg2 hh2
            refine W_region ?_
            refine WL_val rfl rfl rfl (st_mv (v := .int _ _) rfl) ?_
            refine WL_val rfl rfl rfl (st_mv (v := .int _ _) rfl) ?_
            refine WL_val rfl rfl rfl ((st_vb (b := true) (by simp) (st_eql rfl rfl))) ?_
            refine WL_val rfl rfl rfl (st_mv (v := .bool _) rfl) ?_
            refine WL_valg rfl rfl rfl rfl rfl rfl (st_mv (v := .bool _) rfl) ?_
            refine WL_valg rfl rfl rfl rfl rfl rfl (st_mv (v := .bool _) rfl) ?_
            refine WL_valg rfl rfl rfl rfl rfl rfl ((st_vb (b := true) (by simp) (st_eqlb Tryd.underlying4 rfl rfl))) ?_
            refine WL_val rfl rfl rfl (st_pk_t (v := .bool _) rfl rfl) ?_
            refine WL_val rfl rfl rfl (st_as (v := .bool _) rfl) ?_
            refine WL_nil ?_
            refine W_ret ?_
            refine qr1 ?_
            exact ⟨rfl, hx⟩
end Go.Proofs.YtndfhicdabdafaaDoor
