/- Walks of passAll, beginnings, fitsUp, matches, Matches. -/
import Derived.Test.YtndfhicdabdafaaDoorC11
import Derived.Test.YtndfhicdabdafaaDoorKg
namespace Go.Proofs.YtndfhicdabdafaaDoor
open Go Go.RowKit

theorem passAll_ok (N : Nat) : ∀ ps, cntP ps < N → PassAll ps := by
  induction N with
  | zero => intro ps h; omega
  | succ N ih =>
  intro ps hN
  unfold PassAll
  intro n text fr gf v w hn hps hfr hlf hts
  obtain ⟨a, cp, rfl, hpl⟩ := hps.form
  have hx0 := Ext.refl w
  refine fun1 Tryd.func44 rfl (by kernel_rfl) rfl rfl rfl ?_
  refine W_seq ?_
  refine W_region ?_
  refine WL_val rfl rfl rfl (st_as (v := (.slice none 0 0)) rfl) ?_
  refine WL_nil ?_
  refine W_seq ?_
  refine W_seq ?_
  refine W_region ?_
  refine WL_val rfl rfl rfl (st_mv (v := .slice _ _ _) rfl) ?_
  refine WL_val rfl rfl rfl (st_len Tryd.underlying22 rfl) ?_
  refine WL_val rfl rfl rfl (st_mv (v := (.int .i64 0)) rfl) ?_
  refine WL_nil ?_
  refine W_block ?_
  refine W_loop [2, 11] [2, 8, 11, 12, 13, 14, 15, 16, 17, 18, 19] (fun m vs w1 => ∃ (k gk : Nat) (fk : List Bool), k + m = ps.length ∧ vs = [.slice (some ⟨gk, 0, none⟩) fr.length fr.length, .int .i64 (k : Int)] ∧ fk.length = fr.length ∧ Blk w1 gk 4 (fk.map Value.bool) ∧ (gk = gf ∨ w.heap.size ≤ gk) ∧ Pas (LP (ps.take k)) text fr fk ∧ Ext w w1) ?_ ?_
  · exact ⟨ps.length, 0, gf, fr, by omega, rfl, rfl, hfr, .inl rfl, Pas.nil, hx0⟩
  · intro m vs w1 u hI
    obtain ⟨k, gk, fk, hk, rfl, hlk, hfk, hgk, hP, hx0⟩ := hI
    replace hps := hps.ext hx0
    have hsz0 := hx0.size
    refine W_seq ?_
    refine W_region ?_
    refine WL_val rfl rfl rfl (st_lss rfl rfl) ?_
    refine WL_nil ?_
    refine W_seq ?_
    refine W_cond rfl (fun h12 => ?_) (fun h12 => ?_)
    · have g12 := of_decide_eq_true h12
      refine W_skip ?_
      refine W_seq ?_
      refine W_block ?_
      refine W_seq ?_
      have hk' : k < ps.length := by omega
      obtain ⟨pb, po, rv, wv, hpD, hpa, hpc, hpr, hpw⟩ := hps.at hk'
      have hcnt : ps[k].cnt ≤ cntP ps := by have := cntP_drop ps k; rw [drop_at hk'] at this; simp only [cntP] at this; omega
      obtain ⟨p, hp⟩ : ∃ p, p = ps[k] := ⟨_, rfl⟩
      rw [← hp] at hpc hpr hpw hcnt
      obtain ⟨wa, wcp, rfl, hwl⟩ := hpw.form
      obtain ⟨ra, rcp, rfl, hrl⟩ := hpr.form
      have hsz1 : n ≤ w.heap.size := hn
      refine W_region ?_
      refine WL_val rfl rfl rfl (st_indexAddr Tryd.underlying22 ti33 rfl hpa rfl (by omega)) ?_
      refine WL_val rfl rfl rfl (st_loada ⟨_, Tryd.underlying33, rfl⟩ ti33 rfl hpc rfl) ?_
      refine WL_ef (ef_alloc ti33) rfl rfl rfl ?_
      rintro _ w3 ⟨b2, rfl, hl8, hb8, hx4⟩
      refine WL_su (su_storea ti33 rfl hb8 rfl rfl (Nat.le_of_ble_eq_true rfl) rfl) rfl rfl ?_
      rintro w5 ⟨hnb, hf6⟩
      have hx7 : Ext w1 w5 := hx4.trans_new hf6 (fun _ h => by subst h; exact hl8)
      clear hb8
      have hb8 : Blk _ _ _ [_, _, _, _, _] := hnb
      clear hnb
      replace hx0 := hx0.ext hx7
      replace hps := hps.ext hx7
      replace hfk := hfk.ext hx7
      replace hpr := hpr.ext hx7
      replace hpw := hpw.ext hx7
      refine WL_nil ?_
      refine W_region ?_
      refine WL_val rfl rfl rfl (st_loada ⟨_, Tryd.underlying33, rfl⟩ ti33 rfl hb8.cells rfl) ?_
      refine WL_val rfl rfl rfl (st_mv (v := .string _) rfl) ?_
      refine WL_val rfl rfl rfl (st_mv (v := .slice _ _ _) rfl) ?_
      rw [← hlk]
      refine WL_call rfl rfl rfl (pass_of N ih p (by omega) n text fk gk ra wa rcp wcp _ (by have := hx0.size; omega) hpr hpw hfk (by omega) hts) (ent_go rfl) ?_
      rintro _ w9 ⟨to, g2, rfl, hto, hg2, hP2, hx9⟩
      rw [hlk]
      have hsz9 := hx0.size
      replace hx0 := hx0.ext hx9
      rw [hp] at hP2
      refine WL_val rfl rfl rfl (st_as (v := .slice _ _ _) rfl) ?_
      refine WL_nil ?_
      refine W_region ?_
      refine WL_val rfl rfl rfl (st_add rfl rfl (by omega) (by omega)) ?_
      refine WL_val rfl rfl rfl (st_mv (v := .int _ _) rfl) ?_
      refine WL_nil ?_
      refine rnd_end ?_ (m - 1) ?_ ?_
      · repeat (first | exact agree_in rfl rfl (agree_refl _ _) | exact agree_refl _ _ | refine agree_in rfl rfl ?_ | refine agree_upd rfl ?_)
      · omega
      · exact ⟨k + 1, g2, to, by omega, vec2 rfl rfl, hP2.1.trans hlk, hto, by have := hg2; omega, by rw [List.take_succ_eq_append_getElem hk']; exact hP.append (hP2.iff (fun l => (LP_one _ l).symm)), hx0⟩
    · have g12 := of_decide_eq_false h12
      refine W_exit ?_
      refine W_seq ?_
      refine W_region ?_
      refine WL_val rfl rfl rfl (st_mv (v := .slice _ _ _) rfl) ?_
      refine WL_val rfl rfl rfl (st_as (v := .slice _ _ _) rfl) ?_
      refine WL_nil ?_
      refine W_ret ?_
      refine qr1 ?_
      rw [List.take_of_length_le (by omega)] at hP
      exact ⟨fk, gk, rfl, hfk, hgk, hP, hx0⟩
def BegK (rt : Bool) (t : ByteArray) (k : Nat) (bs : List Bool) : Prop := bs.length = t.size + 1 ∧ ∀ j, j ≤ t.size → (bs.getD j false = true ↔ j = 0 ∨ (rt = false ∧ 0 < j ∧ j ≤ k ∧ ∃ h : j - 1 < t.size, t[j - 1] = 47))
theorem BegK.zero {rt : Bool} {t : ByteArray} : BegK rt t 0 ((List.replicate (t.size + 1) false).set 0 true) := by
  refine ⟨by simp, fun j hj => ?_⟩
  rw [getD_set _ _ _ _ (by simp)]
  by_cases e : j = 0
  · rw [if_pos e]; exact ⟨fun _ => .inl e, fun _ => rfl⟩
  · rw [if_neg e]
    constructor
    · intro h
      rw [List.getD_eq_getElem?_getD, List.getElem?_replicate] at h
      split at h <;> cases h
    · rintro (h | ⟨_, _, h, _⟩) <;> omega
theorem BegK.hit {rt : Bool} {t : ByteArray} {k : Nat} {bs : List Bool} (h : BegK rt t k bs) (hk : k < t.size) (hr : rt = false) (hc : t[k] = 47) : BegK rt t (k + 1) (bs.set (k + 1) true) := by
  refine ⟨by simp [h.1], fun j hj => ?_⟩
  rw [getD_set _ _ _ _ (by rw [h.1]; omega)]
  by_cases e : j = k + 1
  · subst e; rw [if_pos rfl]; exact ⟨fun _ => .inr ⟨hr, by omega, by omega, hk, hc⟩, fun _ => rfl⟩
  · rw [if_neg e, h.2 j hj]
    constructor
    · rintro (h | ⟨a, b, c, d⟩)
      · exact .inl h
      · exact .inr ⟨a, b, by omega, d⟩
    · rintro (h | ⟨a, b, c, d⟩)
      · exact .inl h
      · exact .inr ⟨a, b, by omega, d⟩
theorem BegK.miss {rt : Bool} {t : ByteArray} {k : Nat} {bs : List Bool} (h : BegK rt t k bs) (hc : rt = false → ∀ hk : k < t.size, t[k] = 47 → False) : BegK rt t (k + 1) bs := by
  refine ⟨h.1, fun j hj => ?_⟩
  rw [h.2 j hj]
  constructor
  · rintro (h | ⟨a, b, c, d⟩)
    · exact .inl h
    · exact .inr ⟨a, b, by omega, d⟩
  · rintro (h | ⟨a, b, c, d, d2⟩)
    · exact .inl h
    · by_cases e : j = k + 1
      · subst e; exact (hc a (by omega) d2).elim
      · exact .inr ⟨a, b, by omega, d, d2⟩
theorem BegK.done {rt : Bool} {t : ByteArray} {k : Nat} {bs : List Bool} (h : BegK rt t k bs) (hk : t.size ≤ k) : ∀ j, j ≤ t.size → (bs.getD j false = true ↔ BegAt rt t j) := by
  intro j hj
  rw [h.2 j hj]
  unfold BegAt
  constructor
  · rintro (h | ⟨a, b, c, d⟩)
    · exact .inl h
    · exact .inr ⟨a, b, d⟩
  · rintro (h | ⟨a, b, d⟩)
    · exact .inl h
    · exact .inr ⟨a, b, by omega, d⟩
theorem beginnings_ok (rt dr : Bool) (v : Value) (hv : ∃ a l c, v = .slice a l c) (t : ByteArray) (hts : t.size ≤ 1099511627) (w : World) :
    Fun Tryd.prog 45 [.agg #[.bool rt, .bool dr, v], .string t] w (fun r w' => ∃ (bs : List Bool) (g : Nat), r = .slice (some ⟨g, 0, none⟩) (t.size + 1) (t.size + 1) ∧ Blk w' g 4 (bs.map Value.bool) ∧ w.heap.size ≤ g ∧ bs.length = t.size + 1 ∧ (∀ j, j ≤ t.size → (bs.getD j false = true ↔ BegAt rt t j)) ∧ Ext w w') := by
  obtain ⟨a, l, c, rfl⟩ := hv
  have hx0 := Ext.refl w
  refine fun1 Tryd.func45 rfl (by kernel_rfl) rfl rfl rfl ?_
  refine W_seq ?_
  refine W_region ?_
  refine WL_ef (ef_box (cs := [_, _, _]) rfl) rfl rfl rfl ?_
  rintro _ w2 ⟨b1, rfl, hl2, hb2, hx3⟩
  replace hx0 := hx0.ext hx3
  refine WL_val rfl rfl rfl (st_as (v := (.slice none 0 0)) rfl) ?_
  refine WL_nil ?_
  refine W_seq ?_
  refine W_region ?_
  refine WL_val rfl rfl rfl (st_mv (v := .string _) rfl) ?_
  refine WL_val rfl rfl rfl (st_lens Tryd.underlying9 rfl) ?_
  refine WL_val rfl rfl rfl (st_add rfl rfl (by omega) (by omega)) ?_
  have hn1 : Value.int .i64 ((t.size : Int) + 1) = .int .i64 ((t.size + 1 : Nat) : Int) := vint (by omega)
  refine WL_ef (ef_makeB (n := t.size + 1) Tryd.underlying82 ti4 (by decide) hn1 hn1 (by omega)) rfl rfl rfl ?_
  rintro _ wm ⟨g, rfl, hlg, hto, hxm⟩
  have hszm := hx0.size
  have hb3l := hb2.lt
  replace hb2 := hb2.ext hxm
  replace hx0 := hx0.ext hxm
  refine WL_val rfl rfl rfl (st_as (v := .slice _ _ _) rfl) ?_
  refine WL_nil ?_
  refine W_seq ?_
  refine W_region ?_
  refine WL_val rfl rfl rfl (st_mv (v := .slice _ _ _) rfl) ?_
  refine WL_val rfl rfl rfl (st_indexAddr (o := 0) (i := 0) Tryd.underlying82 ti4 rfl rfl rfl (by omega)) ?_
  refine WL_su (su_store ti4 rfl hto (by rw [List.length_map, List.length_replicate]; omega) rfl rfl) rfl rfl ?_
  rintro w4 ⟨hnb, hf5⟩
  have hto : Blk w4 g 4 (((List.replicate (t.size + 1) false).set (0) true).map Value.bool) := by rw [← mapb_set]; exact hnb
  clear hnb
  have hx0 : Ext w w4 := hx0.trans' hf5 (fun _ _ f => f) (fun k hk e => by have e' : k = g := e; omega)
  have hb2 := hb2.fro hf5 (fun e => by have e' : b1 = g := e; omega)
  refine WL_nil ?_
  refine W_seq ?_
  refine W_seq ?_
  refine W_region ?_
  refine WL_val rfl rfl rfl (st_mv (v := .string _) rfl) ?_
  refine WL_val rfl rfl rfl (st_lens Tryd.underlying9 rfl) ?_
  refine WL_val rfl rfl rfl (st_mv (v := (.int .i64 0)) rfl) ?_
  refine WL_nil ?_
  refine W_block ?_
  refine W_loop [15] [6, 15, 16, 17, 18, 19, 20, 21, 22, 23, 24, 25, 26, 27, 28, 29, 30, 31] (fun m vs w1 => ∃ (k : Nat) (bs : List Bool), k + m = t.size ∧ vs = [.int .i64 (k : Int)] ∧ BegK rt t k bs ∧ Blk w1 g 4 (bs.map Value.bool) ∧ Fro (· = g) w4 w1) ?_ ?_
  · exact ⟨t.size, 0, _, by omega, rfl, BegK.zero, hto, Fro.refl _ _⟩
  · intro m vs w6 u hI
    obtain ⟨k, bs, hk, rfl, hB, hto, hF⟩ := hI
    have hlt := hB.1
    have hx0 : Ext w w6 := hx0.trans' hF (fun _ _ f => f) (fun k hk e => by have e' : k = g := e; omega)
    have hb2 := hb2.fro hF (fun e => by have e' : b1 = g := e; omega)
    refine W_seq ?_
    refine W_region ?_
    refine WL_val rfl rfl rfl (st_lss rfl rfl) ?_
    refine WL_nil ?_
    refine W_seq ?_
    refine W_cond rfl (fun h16 => ?_) (fun h16 => ?_)
    · have g16 := of_decide_eq_true h16
      refine W_skip ?_
      refine W_seq ?_
      refine W_block ?_
      refine W_seq ?_
      refine W_region ?_
      refine WL_val rfl rfl rfl (st_mv (v := .int _ _) rfl) ?_
      refine WL_val rfl rfl rfl (st_as (v := .int _ _) rfl) ?_
      refine WL_nil ?_
      refine W_seq ?_
      refine W_region ?_
      refine WL_val rfl rfl rfl (st_fieldAddr (off := 0) Tryd.underlying24 rfl rfl ti4 rfl) ?_
      refine WL_val rfl rfl rfl (st_load ⟨_, Tryd.underlying4, rfl⟩ rfl (hb2.cell 0 rfl)) ?_
      refine WL_val rfl rfl rfl (st_not rfl) ?_
      refine WL_val rfl rfl rfl (st_mv (v := .bool _) rfl) ?_
      refine WL_split 21 rfl (fun h21 => ?_) (fun h21 => ?_)
      · have g21 := h21
        refine WL_valg rfl rfl rfl (congrArg Value.bool h21) rfl rfl (st_mv (v := .string _) rfl) ?_
        refine WL_valg rfl rfl rfl (congrArg Value.bool h21) rfl rfl (st_mv (v := .int _ _) rfl) ?_
        refine WL_valg rfl rfl rfl (congrArg Value.bool h21) rfl rfl (st_index (s := t) (i := k) Tryd.underlying9 rfl rfl (by omega)) ?_
        refine WL_valg rfl rfl rfl (congrArg Value.bool h21) rfl rfl (st_eql rfl rfl) ?_
        refine WL_val rfl rfl rfl (st_pk_t (v := .bool _) (congrArg Value.bool h21) rfl) ?_
        refine WL_nil ?_
        refine W_cond rfl (fun h26 => ?_) (fun h26 => ?_)
        · have g26 := of_decide_eq_true h26
          refine W_region ?_
          refine WL_val rfl rfl rfl (st_mv (v := .slice _ _ _) rfl) ?_
          refine WL_val rfl rfl rfl (st_mv (v := .int _ _) rfl) ?_
          refine WL_val rfl rfl rfl (st_add rfl rfl (by omega) (by omega)) ?_
          refine WL_val rfl rfl rfl (st_indexAddr (o := 0) (i := k + 1) Tryd.underlying82 ti4 rfl rfl (by exact vint (by omega)) (by omega)) ?_
          refine WL_su (su_store ti4 rfl hto (by rw [List.length_map]; omega) rfl rfl) rfl rfl ?_
          rintro w7 ⟨hnb, hf8⟩
          have hto : Blk w7 g 4 ((bs.set (k + 1) true).map Value.bool) := by rw [← mapb_set]; exact hnb
          clear hnb
          have hx0 : Ext w w7 := hx0.trans' hf8 (fun _ _ f => f) (fun k hk e => by have e' : k = g := e; omega)
          have hb2 := hb2.fro hf8 (fun e => by have e' : b1 = g := e; omega)
          have hF := hF.trans hf8
          refine WL_nil ?_
          refine W_region ?_
          refine WL_val rfl rfl rfl (st_add rfl rfl (by omega) (by omega)) ?_
          refine WL_val rfl rfl rfl (st_mv (v := .int _ _) rfl) ?_
          refine WL_nil ?_
          refine rnd_end ?_ (m - 1) ?_ ?_
          · repeat (first | exact agree_in rfl rfl (agree_refl _ _) | exact agree_refl _ _ | refine agree_in rfl rfl ?_ | refine agree_upd rfl ?_)
          · omega
          · exact ⟨k + 1, _, by omega, vec1 rfl, hB.hit (by omega) (not_t h21) ((byte_eq _ 47 (by decide)).1 g26), hto, hF⟩
        · have g26 := of_decide_eq_false h26
          refine W_skip ?_
          refine W_region ?_
          refine WL_val rfl rfl rfl (st_add rfl rfl (by omega) (by omega)) ?_
          refine WL_val rfl rfl rfl (st_mv (v := .int _ _) rfl) ?_
          refine WL_nil ?_
          refine rnd_end ?_ (m - 1) ?_ ?_
          · repeat (first | exact agree_in rfl rfl (agree_refl _ _) | exact agree_refl _ _ | refine agree_in rfl rfl ?_ | refine agree_upd rfl ?_)
          · omega
          · exact ⟨k + 1, _, by omega, vec1 rfl, hB.miss (fun _ h e => g26 ((byte_eq _ 47 (by decide)).2 e)), hto, hF⟩
      · have g21 := h21
        refine WL_pass rfl rfl rfl (congrArg Value.bool h21) rfl rfl ?_
        refine WL_pass rfl rfl rfl (congrArg Value.bool h21) rfl rfl ?_
        refine WL_pass rfl rfl rfl (congrArg Value.bool h21) rfl rfl ?_
        refine WL_pass rfl rfl rfl (congrArg Value.bool h21) rfl rfl ?_
        refine WL_val rfl rfl rfl (st_pk_f (v := (.bool false)) (congrArg Value.bool h21) rfl) ?_
        refine WL_nil ?_
        refine W_no rfl ?_
        refine W_skip ?_
        refine W_region ?_
        refine WL_val rfl rfl rfl (st_add rfl rfl (by omega) (by omega)) ?_
        refine WL_val rfl rfl rfl (st_mv (v := .int _ _) rfl) ?_
        refine WL_nil ?_
        refine rnd_end ?_ (m - 1) ?_ ?_
        · repeat (first | exact agree_in rfl rfl (agree_refl _ _) | exact agree_refl _ _ | refine agree_in rfl rfl ?_ | refine agree_upd rfl ?_)
        · omega
        · exact ⟨k + 1, _, by omega, vec1 rfl, hB.miss (fun hr => by rw [hr] at h21; cases h21), hto, hF⟩
    · have g16 := of_decide_eq_false h16
      refine W_exit ?_
      refine W_seq ?_
      refine W_region ?_
      refine WL_val rfl rfl rfl (st_mv (v := .slice _ _ _) rfl) ?_
      refine WL_val rfl rfl rfl (st_as (v := .slice _ _ _) rfl) ?_
      refine WL_nil ?_
      refine W_ret ?_
      refine qr1 ?_
      exact ⟨bs, g, rfl, hto, by omega, hB.1, hB.done (by omega), hx0⟩
theorem size_pos {t : ByteArray} (h : ¬ t = ⟨#[]⟩) : 0 < t.size := by
  rcases Nat.eq_zero_or_pos t.size with h1 | h1
  · exact absurd (byts_ext (s := t) (t := ⟨#[]⟩) (List.length_eq_zero_iff.1 (by rw [byts_length]; exact h1))) h
  · exact h1
theorem fitsUp_ok (rt dr : Bool) (ps : List Part) (n : Nat) (v : Value) (t : ByteArray) (itself above : Bool) (w : World) (hn : n ≤ w.heap.size) (hps : PartsAt (· < n) w v ps) (hts : t.size ≤ 1099511627) :
    Fun Tryd.prog 29 [.agg #[.bool rt, .bool dr, v], .string t, .bool itself, .bool above] w (fun r w' => ∃ b, r = .bool b ∧ (b = true ↔ FitS rt ps t itself above) ∧ Ext w w') := by
  obtain ⟨a, cp, rfl, hpl⟩ := hps.form
  have hx0 := Ext.refl w
  refine fun1 Tryd.func29 rfl (by kernel_rfl) rfl rfl rfl ?_
  refine W_seq ?_
  refine W_region ?_
  refine WL_ef (ef_box (cs := [_, _, _]) rfl) rfl rfl rfl ?_
  rintro _ w2 ⟨b1, rfl, hl4, hb4, hx3⟩
  replace hx0 := hx0.ext hx3
  replace hps := hps.ext hx3
  refine WL_val rfl rfl rfl (st_as (v := (.bool false)) rfl) ?_
  refine WL_nil ?_
  refine W_seq ?_
  refine W_seq ?_
  refine W_region ?_
  refine WL_val rfl rfl rfl (st_mv (v := .string _) rfl) ?_
  refine WL_val rfl rfl rfl (st_eqls rfl rfl) ?_
  refine WL_nil ?_
  refine W_cond rfl (fun h12 => ?_) (fun h12 => ?_)
  · have g12 := of_decide_eq_true h12
    refine W_seq ?_
    refine W_region ?_
    refine WL_val rfl rfl rfl (st_as (v := (.bool false)) rfl) ?_
    refine WL_nil ?_
    refine W_ret ?_
    refine qr1 ?_
    exact ⟨_, rfl, ⟨fun h => (by cases h), fun h => absurd h.1 (by rw [g12]; decide)⟩, hx0⟩
  · have g12 := of_decide_eq_false h12
    refine W_skip ?_
    refine W_seq ?_
    have hpos := size_pos g12
    refine W_held 8 7 (Ext w2) mixed rfl ?_
    intro w4 hcur hheap
    refine WH_take 0 rfl rfl rfl rfl (by kernel_rfl) (fun _ _ _ h => np1 h) hcur (fun w' hx' => st_fieldAddr (off := 2) Tryd.underlying24 rfl rfl ti22 rfl) ?_
    refine WH_take 1 rfl rfl rfl rfl (by kernel_rfl) (fun _ _ _ h => np1 h) hcur (fun w' hx' => st_load ⟨_, Tryd.underlying22, rfl⟩ rfl (hx'.cell (hb4.cell 2 rfl))) ?_
    refine WH_take 2 rfl rfl rfl rfl (by kernel_rfl) (fun _ _ _ h => np1 h) hcur (fun w' hx' => st_mv (v := .string _) rfl) ?_
    refine WH_take 3 rfl rfl rfl rfl (by kernel_rfl) (fun _ _ _ h => np1 h) hcur (fun w' hx' => st_loada ⟨_, Tryd.underlying24, rfl⟩ ti24 rfl (hb4.cells.ext hx') rfl) ?_
    refine WH_take 4 rfl rfl rfl rfl (by kernel_rfl) (fun _ _ _ h => np1 h) hcur (fun w' hx' => st_mv (v := .string _) rfl) ?_
    refine WH_one (i := 5) (by kernel_rfl) ?_
    refine WHi_call rfl rfl rfl rfl (beginnings_ok rt dr _ ⟨_, _, _, rfl⟩ t hts _) (ent_go rfl) ?_
    rintro _ w5 ⟨bs, gb, rfl, hbb, hgb, hlb, hbg, hx6⟩
    rw [← hlb]
    replace hcur := Fro.trans hcur hx6
    refine ⟨fun _ => hcur, ?_⟩
    refine WH_one (i := 6) (by kernel_rfl) ?_
    refine WHi_call rfl rfl rfl rfl (passAll_ok _ ps (Nat.lt_succ_self _) n t bs gb _ _ (by have := hx0.size; have := hcur.size; omega) (hps.ext hcur) hbb hlb hts) (ent_go rfl) ?_
    rintro _ w7 ⟨to, gt, rfl, hto, _, hP, hx8⟩
    have hlt := hP.1
    replace hcur := Fro.trans hcur hx8
    refine ⟨fun _ => hcur, ?_⟩
    refine WH_one (i := 7) (by kernel_rfl) ?_
    refine WHi_val rfl rfl rfl rfl (st_as (v := .slice _ _ _) rfl) (fun h => absurd rfl h) ?_
    refine WH_done (by kernel_rfl) ?_
    replace hx0 := hx0.ext hcur
    replace hps := hps.ext hcur
    refine W_seq ?_
    refine W_seq ?_
    have hR : ∀ j, j ≤ t.size → (to.getD j false = true ↔ Reach rt ps t j) := fun j hj => (hP.2 j hj).trans ⟨fun ⟨i, h1, h2, h3⟩ => ⟨i, h1, (hbg i (by omega)).1 h2, h3⟩, fun ⟨i, h1, h2, h3⟩ => ⟨i, h1, (hbg i (by omega)).2 h2, h3⟩⟩
    refine W_region ?_
    refine WL_val rfl rfl rfl (st_mv (v := .bool _) rfl) ?_
    refine WL_val rfl rfl rfl (st_mv (v := .bool _) rfl) ?_
    refine WL_split 21 rfl (fun h21 => ?_) (fun h21 => ?_)
    · have g21 := h21
      refine WL_valg rfl rfl rfl (congrArg Value.bool h21) rfl rfl (st_mv (v := .slice _ _ _) rfl) ?_
      refine WL_valg rfl rfl rfl (congrArg Value.bool h21) rfl rfl (st_mv (v := .string _) rfl) ?_
      refine WL_valg rfl rfl rfl (congrArg Value.bool h21) rfl rfl (st_lens Tryd.underlying9 rfl) ?_
      refine WL_valg rfl rfl rfl (congrArg Value.bool h21) rfl rfl (st_indexAddr (o := 0) (i := t.size) Tryd.underlying82 ti4 rfl rfl rfl (by omega)) ?_
      refine WL_valg rfl rfl rfl (congrArg Value.bool h21) rfl rfl (st_load ⟨_, Tryd.underlying4, rfl⟩ rfl (hto.cell _ (mapb (by omega)))) ?_
      refine WL_val rfl rfl rfl (st_pk_t (v := .bool _) (congrArg Value.bool h21) rfl) ?_
      refine WL_nil ?_
      refine W_cond rfl (fun h27 => ?_) (fun h27 => ?_)
      · have g27 := h27
        refine W_seq ?_
        refine W_region ?_
        refine WL_val rfl rfl rfl (st_as (v := (.bool true)) rfl) ?_
        refine WL_nil ?_
        refine W_ret ?_
        refine qr1 ?_
        exact ⟨_, rfl, ⟨fun _ => ⟨hpos, .inl ⟨h21, (hR _ (Nat.le_refl _)).1 h27⟩⟩, fun _ => rfl⟩, hx0⟩
      · have g27 := h27
        refine W_skip ?_
        refine W_seq ?_
        refine W_seq ?_
        have hno1 : ¬ (itself = true ∧ Reach rt ps t t.size) := fun h => by rw [(hR _ (Nat.le_refl _)).2 h.2] at h27; cases h27
        refine W_region ?_
        refine WL_val rfl rfl rfl (st_as (v := (.int .i64 1)) rfl) ?_
        refine WL_nil ?_
        refine W_block ?_
        refine W_loop [10] [8, 10, 28, 29, 30, 31, 32, 33, 34, 35, 36, 37, 38, 39, 40, 41, 42, 43, 44, 45, 46] (fun m vs w1 => ∃ k : Nat, k + m = t.size + 1 ∧ 1 ≤ k ∧ vs = [.int .i64 (k : Int)] ∧ (∀ j (h : j < t.size), 1 ≤ j → j < k → ¬ (t[j] = 47 ∧ Reach rt ps t j)) ∧ Blk w1 gt 4 (to.map Value.bool) ∧ Ext w w1) ?_ ?_
        · exact ⟨t.size, 1, by omega, by omega, rfl, fun j h h1 h2 => by omega, hto, hx0⟩
        · intro m vs w9 u hI
          obtain ⟨k, hk, hk1, rfl, hno, hto, hx0⟩ := hI
          refine W_seq ?_
          refine W_seq ?_
          refine W_region ?_
          refine WL_val rfl rfl rfl (st_mv (v := .bool _) rfl) ?_
          refine WL_val rfl rfl rfl (st_mv (v := .bool _) rfl) ?_
          refine WL_split 29 rfl (fun h29 => ?_) (fun h29 => ?_)
          · have g29 := h29
            refine WL_valg rfl rfl rfl (congrArg Value.bool h29) rfl rfl (st_mv (v := .int _ _) rfl) ?_
            refine WL_valg rfl rfl rfl (congrArg Value.bool h29) rfl rfl (st_mv (v := .string _) rfl) ?_
            refine WL_valg rfl rfl rfl (congrArg Value.bool h29) rfl rfl (st_lens Tryd.underlying9 rfl) ?_
            refine WL_valg rfl rfl rfl (congrArg Value.bool h29) rfl rfl (st_lss rfl rfl) ?_
            refine WL_val rfl rfl rfl (st_pk_t (v := .bool _) (congrArg Value.bool h29) rfl) ?_
            refine WL_nil ?_
            refine W_cond rfl (fun h34 => ?_) (fun h34 => ?_)
            · have g34 := of_decide_eq_true h34
              refine W_skip ?_
              refine W_seq ?_
              refine W_block ?_
              refine W_seq ?_
              refine W_region ?_
              refine WL_val rfl rfl rfl (st_mv (v := .string _) rfl) ?_
              refine WL_val rfl rfl rfl (st_mv (v := .int _ _) rfl) ?_
              refine WL_val rfl rfl rfl (st_index (s := t) (i := k) Tryd.underlying9 rfl rfl (by omega)) ?_
              refine WL_val rfl rfl rfl (st_eql rfl rfl) ?_
              refine WL_val rfl rfl rfl (st_mv (v := .bool _) rfl) ?_
              refine WL_split 41 rfl (fun h41 => ?_) (fun h41 => ?_)
              · have g41 := of_decide_eq_true h41
                refine WL_valg rfl rfl rfl (congrArg Value.bool h41) rfl rfl (st_mv (v := .slice _ _ _) rfl) ?_
                refine WL_valg rfl rfl rfl (congrArg Value.bool h41) rfl rfl (st_mv (v := .int _ _) rfl) ?_
                refine WL_valg rfl rfl rfl (congrArg Value.bool h41) rfl rfl (st_indexAddr (o := 0) (i := k) Tryd.underlying82 ti4 rfl rfl rfl (by omega)) ?_
                refine WL_valg rfl rfl rfl (congrArg Value.bool h41) rfl rfl (st_load ⟨_, Tryd.underlying4, rfl⟩ rfl (hto.cell _ (mapb (by omega)))) ?_
                refine WL_val rfl rfl rfl (st_pk_t (v := .bool _) (congrArg Value.bool h41) rfl) ?_
                refine WL_nil ?_
                refine W_cond rfl (fun h46 => ?_) (fun h46 => ?_)
                · have g46 := h46
                  refine W_seq ?_
                  refine W_region ?_
                  refine WL_val rfl rfl rfl (st_as (v := (.bool true)) rfl) ?_
                  refine WL_nil ?_
                  refine W_ret ?_
                  refine qr1 ?_
                  exact ⟨_, rfl, ⟨fun _ => ⟨hpos, .inr ⟨h29, k, hk1, by omega, (byte_eq _ 47 (by decide)).1 g41, (hR _ (by omega)).1 h46⟩⟩, fun _ => rfl⟩, hx0⟩
                · have g46 := h46
                  refine W_skip ?_
                  refine W_region ?_
                  refine WL_val rfl rfl rfl (st_mv (v := .int _ _) rfl) ?_
                  refine WL_val rfl rfl rfl (st_add rfl rfl (by omega) (by omega)) ?_
                  refine WL_val rfl rfl rfl (st_as (v := .int _ _) rfl) ?_
                  refine WL_nil ?_
                  refine rnd_end ?_ (m - 1) ?_ ?_
                  · repeat (first | exact agree_in rfl rfl (agree_refl _ _) | exact agree_refl _ _ | refine agree_in rfl rfl ?_ | refine agree_upd rfl ?_)
                  · omega
                  · exact ⟨k + 1, by omega, by omega, vec1 rfl, fun j hj h1 h2 h3 => by
                      by_cases e : j = k
                      · subst e
                        rw [(hR _ (by omega)).2 h3.2] at h46; cases h46
                      · exact hno j hj h1 (by omega) h3, hto, hx0⟩
              · have g41 := of_decide_eq_false h41
                refine WL_pass rfl rfl rfl (congrArg Value.bool h41) rfl rfl ?_
                refine WL_pass rfl rfl rfl (congrArg Value.bool h41) rfl rfl ?_
                refine WL_pass rfl rfl rfl (congrArg Value.bool h41) rfl rfl ?_
                refine WL_pass rfl rfl rfl (congrArg Value.bool h41) rfl rfl ?_
                refine WL_val rfl rfl rfl (st_pk_f (v := (.bool false)) (congrArg Value.bool h41) rfl) ?_
                refine WL_nil ?_
                refine W_no rfl ?_
                refine W_skip ?_
                refine W_region ?_
                refine WL_val rfl rfl rfl (st_mv (v := .int _ _) rfl) ?_
                refine WL_val rfl rfl rfl (st_add rfl rfl (by omega) (by omega)) ?_
                refine WL_val rfl rfl rfl (st_as (v := .int _ _) rfl) ?_
                refine WL_nil ?_
                refine rnd_end ?_ (m - 1) ?_ ?_
                · repeat (first | exact agree_in rfl rfl (agree_refl _ _) | exact agree_refl _ _ | refine agree_in rfl rfl ?_ | refine agree_upd rfl ?_)
                · omega
                · exact ⟨k + 1, by omega, by omega, vec1 rfl, fun j hj h1 h2 h3 => by
                    by_cases e : j = k
                    · subst e
                      exact g41 ((byte_eq _ 47 (by decide)).2 h3.1)
                    · exact hno j hj h1 (by omega) h3, hto, hx0⟩
            · have g34 := of_decide_eq_false h34
              refine W_exit ?_
              refine W_seq ?_
              refine W_region ?_
              refine WL_val rfl rfl rfl (st_as (v := (.bool false)) rfl) ?_
              refine WL_nil ?_
              refine W_ret ?_
              refine qr1 ?_
              exact ⟨_, rfl, ⟨fun h => (by cases h), fun ⟨_, h⟩ => h.elim (fun h => absurd h hno1) (fun ⟨ha, j, h1, hj, h2⟩ => by exact (hno j hj h1 (by omega) h2).elim)⟩, hx0⟩
          · have g29 := h29
            refine WL_pass rfl rfl rfl (congrArg Value.bool h29) rfl rfl ?_
            refine WL_pass rfl rfl rfl (congrArg Value.bool h29) rfl rfl ?_
            refine WL_pass rfl rfl rfl (congrArg Value.bool h29) rfl rfl ?_
            refine WL_pass rfl rfl rfl (congrArg Value.bool h29) rfl rfl ?_
            refine WL_val rfl rfl rfl (st_pk_f (v := (.bool false)) (congrArg Value.bool h29) rfl) ?_
            refine WL_nil ?_
            refine W_no rfl ?_
            refine W_exit ?_
            refine W_seq ?_
            refine W_region ?_
            refine WL_val rfl rfl rfl (st_as (v := (.bool false)) rfl) ?_
            refine WL_nil ?_
            refine W_ret ?_
            refine qr1 ?_
            exact ⟨_, rfl, ⟨fun h => (by cases h), fun ⟨_, h⟩ => h.elim (fun h => absurd h hno1) (fun ⟨ha, j, h1, hj, h2⟩ => by rw [h29] at ha; cases ha)⟩, hx0⟩
    · have g21 := h21
      refine WL_pass rfl rfl rfl (congrArg Value.bool h21) rfl rfl ?_
      refine WL_pass rfl rfl rfl (congrArg Value.bool h21) rfl rfl ?_
      refine WL_pass rfl rfl rfl (congrArg Value.bool h21) rfl rfl ?_
      refine WL_pass rfl rfl rfl (congrArg Value.bool h21) rfl rfl ?_
      refine WL_pass rfl rfl rfl (congrArg Value.bool h21) rfl rfl ?_
      refine WL_val rfl rfl rfl (st_pk_f (v := (.bool false)) (congrArg Value.bool h21) rfl) ?_
      refine WL_nil ?_
      refine W_no rfl ?_
      refine W_skip ?_
      refine W_seq ?_
      refine W_seq ?_
      have hno1 : ¬ (itself = true ∧ Reach rt ps t t.size) := fun h => by rw [h21] at h; cases h.1
      refine W_region ?_
      refine WL_val rfl rfl rfl (st_as (v := (.int .i64 1)) rfl) ?_
      refine WL_nil ?_
      refine W_block ?_
      refine W_loop [10] [8, 10, 28, 29, 30, 31, 32, 33, 34, 35, 36, 37, 38, 39, 40, 41, 42, 43, 44, 45, 46] (fun m vs w1 => ∃ k : Nat, k + m = t.size + 1 ∧ 1 ≤ k ∧ vs = [.int .i64 (k : Int)] ∧ (∀ j (h : j < t.size), 1 ≤ j → j < k → ¬ (t[j] = 47 ∧ Reach rt ps t j)) ∧ Blk w1 gt 4 (to.map Value.bool) ∧ Ext w w1) ?_ ?_
      · exact ⟨t.size, 1, by omega, by omega, rfl, fun j h h1 h2 => by omega, hto, hx0⟩
      · intro m vs w10 u hI
        obtain ⟨k, hk, hk1, rfl, hno, hto, hx0⟩ := hI
        refine W_seq ?_
        refine W_seq ?_
        refine W_region ?_
        refine WL_val rfl rfl rfl (st_mv (v := .bool _) rfl) ?_
        refine WL_val rfl rfl rfl (st_mv (v := .bool _) rfl) ?_
        refine WL_split 29 rfl (fun h29 => ?_) (fun h29 => ?_)
        · have g29 := h29
          refine WL_valg rfl rfl rfl (congrArg Value.bool h29) rfl rfl (st_mv (v := .int _ _) rfl) ?_
          refine WL_valg rfl rfl rfl (congrArg Value.bool h29) rfl rfl (st_mv (v := .string _) rfl) ?_
          refine WL_valg rfl rfl rfl (congrArg Value.bool h29) rfl rfl (st_lens Tryd.underlying9 rfl) ?_
          refine WL_valg rfl rfl rfl (congrArg Value.bool h29) rfl rfl (st_lss rfl rfl) ?_
          refine WL_val rfl rfl rfl (st_pk_t (v := .bool _) (congrArg Value.bool h29) rfl) ?_
          refine WL_nil ?_
          refine W_cond rfl (fun h34 => ?_) (fun h34 => ?_)
          · have g34 := of_decide_eq_true h34
            refine W_skip ?_
            refine W_seq ?_
            refine W_block ?_
            refine W_seq ?_
            refine W_region ?_
            refine WL_val rfl rfl rfl (st_mv (v := .string _) rfl) ?_
            refine WL_val rfl rfl rfl (st_mv (v := .int _ _) rfl) ?_
            refine WL_val rfl rfl rfl (st_index (s := t) (i := k) Tryd.underlying9 rfl rfl (by omega)) ?_
            refine WL_val rfl rfl rfl (st_eql rfl rfl) ?_
            refine WL_val rfl rfl rfl (st_mv (v := .bool _) rfl) ?_
            refine WL_split 41 rfl (fun h41 => ?_) (fun h41 => ?_)
            · have g41 := of_decide_eq_true h41
              refine WL_valg rfl rfl rfl (congrArg Value.bool h41) rfl rfl (st_mv (v := .slice _ _ _) rfl) ?_
              refine WL_valg rfl rfl rfl (congrArg Value.bool h41) rfl rfl (st_mv (v := .int _ _) rfl) ?_
              refine WL_valg rfl rfl rfl (congrArg Value.bool h41) rfl rfl (st_indexAddr (o := 0) (i := k) Tryd.underlying82 ti4 rfl rfl rfl (by omega)) ?_
              refine WL_valg rfl rfl rfl (congrArg Value.bool h41) rfl rfl (st_load ⟨_, Tryd.underlying4, rfl⟩ rfl (hto.cell _ (mapb (by omega)))) ?_
              refine WL_val rfl rfl rfl (st_pk_t (v := .bool _) (congrArg Value.bool h41) rfl) ?_
              refine WL_nil ?_
              refine W_cond rfl (fun h46 => ?_) (fun h46 => ?_)
              · have g46 := h46
                refine W_seq ?_
                refine W_region ?_
                refine WL_val rfl rfl rfl (st_as (v := (.bool true)) rfl) ?_
                refine WL_nil ?_
                refine W_ret ?_
                refine qr1 ?_
                exact ⟨_, rfl, ⟨fun _ => ⟨hpos, .inr ⟨h29, k, hk1, by omega, (byte_eq _ 47 (by decide)).1 g41, (hR _ (by omega)).1 h46⟩⟩, fun _ => rfl⟩, hx0⟩
              · have g46 := h46
                refine W_skip ?_
                refine W_region ?_
                refine WL_val rfl rfl rfl (st_mv (v := .int _ _) rfl) ?_
                refine WL_val rfl rfl rfl (st_add rfl rfl (by omega) (by omega)) ?_
                refine WL_val rfl rfl rfl (st_as (v := .int _ _) rfl) ?_
                refine WL_nil ?_
                refine rnd_end ?_ (m - 1) ?_ ?_
                · repeat (first | exact agree_in rfl rfl (agree_refl _ _) | exact agree_refl _ _ | refine agree_in rfl rfl ?_ | refine agree_upd rfl ?_)
                · omega
                · exact ⟨k + 1, by omega, by omega, vec1 rfl, fun j hj h1 h2 h3 => by
                    by_cases e : j = k
                    · subst e
                      rw [(hR _ (by omega)).2 h3.2] at h46; cases h46
                    · exact hno j hj h1 (by omega) h3, hto, hx0⟩
            · have g41 := of_decide_eq_false h41
              refine WL_pass rfl rfl rfl (congrArg Value.bool h41) rfl rfl ?_
              refine WL_pass rfl rfl rfl (congrArg Value.bool h41) rfl rfl ?_
              refine WL_pass rfl rfl rfl (congrArg Value.bool h41) rfl rfl ?_
              refine WL_pass rfl rfl rfl (congrArg Value.bool h41) rfl rfl ?_
              refine WL_val rfl rfl rfl (st_pk_f (v := (.bool false)) (congrArg Value.bool h41) rfl) ?_
              refine WL_nil ?_
              refine W_no rfl ?_
              refine W_skip ?_
              refine W_region ?_
              refine WL_val rfl rfl rfl (st_mv (v := .int _ _) rfl) ?_
              refine WL_val rfl rfl rfl (st_add rfl rfl (by omega) (by omega)) ?_
              refine WL_val rfl rfl rfl (st_as (v := .int _ _) rfl) ?_
              refine WL_nil ?_
              refine rnd_end ?_ (m - 1) ?_ ?_
              · repeat (first | exact agree_in rfl rfl (agree_refl _ _) | exact agree_refl _ _ | refine agree_in rfl rfl ?_ | refine agree_upd rfl ?_)
              · omega
              · exact ⟨k + 1, by omega, by omega, vec1 rfl, fun j hj h1 h2 h3 => by
                  by_cases e : j = k
                  · subst e
                    exact g41 ((byte_eq _ 47 (by decide)).2 h3.1)
                  · exact hno j hj h1 (by omega) h3, hto, hx0⟩
          · have g34 := of_decide_eq_false h34
            refine W_exit ?_
            refine W_seq ?_
            refine W_region ?_
            refine WL_val rfl rfl rfl (st_as (v := (.bool false)) rfl) ?_
            refine WL_nil ?_
            refine W_ret ?_
            refine qr1 ?_
            exact ⟨_, rfl, ⟨fun h => (by cases h), fun ⟨_, h⟩ => h.elim (fun h => absurd h hno1) (fun ⟨ha, j, h1, hj, h2⟩ => by exact (hno j hj h1 (by omega) h2).elim)⟩, hx0⟩
        · have g29 := h29
          refine WL_pass rfl rfl rfl (congrArg Value.bool h29) rfl rfl ?_
          refine WL_pass rfl rfl rfl (congrArg Value.bool h29) rfl rfl ?_
          refine WL_pass rfl rfl rfl (congrArg Value.bool h29) rfl rfl ?_
          refine WL_pass rfl rfl rfl (congrArg Value.bool h29) rfl rfl ?_
          refine WL_val rfl rfl rfl (st_pk_f (v := (.bool false)) (congrArg Value.bool h29) rfl) ?_
          refine WL_nil ?_
          refine W_no rfl ?_
          refine W_exit ?_
          refine W_seq ?_
          refine W_region ?_
          refine WL_val rfl rfl rfl (st_as (v := (.bool false)) rfl) ?_
          refine WL_nil ?_
          refine W_ret ?_
          refine qr1 ?_
          exact ⟨_, rfl, ⟨fun h => (by cases h), fun ⟨_, h⟩ => h.elim (fun h => absurd h hno1) (fun ⟨ha, j, h1, hj, h2⟩ => by rw [h29] at ha; cases ha)⟩, hx0⟩
theorem matches_ok (rt dr : Bool) (ps : List Part) (n : Nat) (v : Value) (t : ByteArray) (w : World) (hn : n ≤ w.heap.size) (hps : PartsAt (· < n) w v ps) (hts : t.size ≤ 1099511627) :
    Fun Tryd.prog 17 [.agg #[.bool rt, .bool dr, v], .string t] w (fun r w' => ∃ b, r = .bool b ∧ (b = true ↔ FitS rt ps t (!dr) dr) ∧ Ext w w') := by
  obtain ⟨a, cp, rfl, hpl⟩ := hps.form
  have hx0 := Ext.refl w
  refine fun1 Tryd.func17 rfl (by kernel_rfl) rfl rfl rfl ?_
  refine W_seq ?_
  refine W_region ?_
  refine WL_ef (ef_box (cs := [_, _, _]) rfl) rfl rfl rfl ?_
  rintro _ w2 ⟨b1, rfl, hl2, hb2, hx3⟩
  replace hx0 := hx0.ext hx3
  replace hps := hps.ext hx3
  refine WL_val rfl rfl rfl (st_as (v := (.bool false)) rfl) ?_
  refine WL_nil ?_
  refine W_seq ?_
  refine W_region ?_
  refine WL_val rfl rfl rfl (st_loada ⟨_, Tryd.underlying24, rfl⟩ ti24 rfl hb2.cells rfl) ?_
  refine WL_val rfl rfl rfl (st_mv (v := .string _) rfl) ?_
  refine WL_val rfl rfl rfl (st_fieldAddr (off := 1) Tryd.underlying24 rfl rfl ti4 rfl) ?_
  refine WL_val rfl rfl rfl (st_load ⟨_, Tryd.underlying4, rfl⟩ rfl (hb2.cell 1 rfl)) ?_
  refine WL_val rfl rfl rfl (st_not rfl) ?_
  refine WL_val rfl rfl rfl (st_fieldAddr (off := 1) Tryd.underlying24 rfl rfl ti4 rfl) ?_
  refine WL_val rfl rfl rfl (st_load ⟨_, Tryd.underlying4, rfl⟩ rfl (hb2.cell 1 rfl)) ?_
  refine WL_call rfl rfl rfl (fitsUp_ok rt dr ps n _ t (!dr) dr _ (by have := hx0.size; omega) hps hts) (ent_go rfl) ?_
  rintro _ w4 ⟨b, rfl, hb, hx5⟩
  replace hx0 := hx0.ext hx5
  replace hps := hps.ext hx5
  replace hb2 := hb2.ext hx5
  refine WL_val rfl rfl rfl (st_as (v := .bool _) rfl) ?_
  refine WL_nil ?_
  refine W_ret ?_
  refine qr1 ?_
  exact ⟨b, rfl, hb, hx0⟩
theorem Matches_ok (rt dr : Bool) (ps : List Part) (n : Nat) (v : Value) (t : ByteArray) (m0 : Int) (w : World) (hm : w.cell? ⟨0, 0, none⟩ = some (.int .i64 m0)) (hn : n ≤ w.heap.size) (hps : PartsAt (· < n) w v ps) (hc : cntP ps ≤ 4611686018427387904) (hl : (printL false ps).length ≤ 1000000000) (htx : ∀ p ∈ ps, p.text.size ≤ 1099511627776) (hts : t.size ≤ 1099511627) :
    Fun Tryd.prog 9 [.agg #[.bool rt, .bool dr, v], .string t] w (fun r w' => ∃ b e, r = .tuple #[.bool b, .int .i64 e] ∧
      ((checkG ⟨rt, dr, ps⟩ ≠ 0 ∧ b = false ∧ e = checkG ⟨rt, dr, ps⟩) ∨ (checkG ⟨rt, dr, ps⟩ = 0 ∧ checkPath t ≠ 0 ∧ b = false ∧ e = checkPath t) ∨ (checkG ⟨rt, dr, ps⟩ = 0 ∧ checkPath t = 0 ∧ e = 0 ∧ (b = true ↔ FitS rt ps t (!dr) dr))) ∧ Ext w w') := by
  obtain ⟨a, cp, rfl, hpl⟩ := hps.form
  have hx0 := Ext.refl w
  refine fun2 Tryd.func9 rfl (by kernel_rfl) rfl rfl rfl ?_
  refine W_seq ?_
  refine W_region ?_
  refine WL_ef (ef_box (cs := [_, _, _]) rfl) rfl rfl rfl ?_
  rintro _ w2 ⟨b1, rfl, hl2, hb2, hx3⟩
  replace hx0 := hx0.ext hx3
  replace hps := hps.ext hx3
  refine WL_val rfl rfl rfl (st_as (v := (.bool false)) rfl) ?_
  refine WL_val rfl rfl rfl (st_as (v := (.int .i64 0)) rfl) ?_
  refine WL_nil ?_
  refine W_seq ?_
  refine W_seq ?_
  refine W_region ?_
  refine WL_val rfl rfl rfl (st_loada ⟨_, Tryd.underlying24, rfl⟩ ti24 rfl hb2.cells rfl) ?_
  refine WL_call rfl rfl rfl (CheckGlob_ok rt dr ps n _ _ (by have := hx0.size; omega) hps hc hl htx) (ent_go rfl) ?_
  rintro _ w4 ⟨rfl, hx5⟩
  replace hx0 := hx0.ext hx5
  replace hps := hps.ext hx5
  replace hb2 := hb2.ext hx5
  refine WL_val rfl rfl rfl (st_as (v := .int _ _) rfl) ?_
  refine WL_nil ?_
  refine W_seq ?_
  refine W_region ?_
  refine WL_val rfl rfl rfl (st_mv (v := .int _ _) rfl) ?_
  refine WL_val rfl rfl rfl (st_neq rfl rfl) ?_
  refine WL_nil ?_
  refine W_cond rfl (fun h11 => ?_) (fun h11 => ?_)
  · have g11 := of_decide_eq_true h11
    refine W_seq ?_
    refine W_region ?_
    refine WL_val rfl rfl rfl (st_mv (v := .int _ _) rfl) ?_
    refine WL_val rfl rfl rfl (st_as (v := (.bool false)) rfl) ?_
    refine WL_val rfl rfl rfl (st_as (v := .int _ _) rfl) ?_
    refine WL_nil ?_
    refine W_ret ?_
    refine qr2 ?_
    exact ⟨false, _, rfl, .inl ⟨g11, rfl, rfl⟩, hx0⟩
  · have g11 := of_decide_eq_false h11
    refine W_skip ?_
    refine W_seq ?_
    refine W_seq ?_
    refine W_region ?_
    refine WL_val rfl rfl rfl (st_mv (v := .string _) rfl) ?_
    refine WL_call rfl rfl rfl (Check_ok t m0 _ (hx0.cell hm)) (ent_go rfl) ?_
    rintro _ w6 ⟨rfl, hx7⟩
    replace hx0 := hx0.ext hx7
    replace hps := hps.ext hx7
    replace hb2 := hb2.ext hx7
    refine WL_val rfl rfl rfl (st_as (v := .int _ _) rfl) ?_
    refine WL_nil ?_
    refine W_seq ?_
    refine W_region ?_
    refine WL_val rfl rfl rfl (st_mv (v := .int _ _) rfl) ?_
    refine WL_val rfl rfl rfl (st_neq rfl rfl) ?_
    refine WL_nil ?_
    refine W_cond rfl (fun h16 => ?_) (fun h16 => ?_)
    · have g16 := of_decide_eq_true h16
      refine W_seq ?_
      refine W_region ?_
      refine WL_val rfl rfl rfl (st_mv (v := .int _ _) rfl) ?_
      refine WL_val rfl rfl rfl (st_as (v := (.bool false)) rfl) ?_
      refine WL_val rfl rfl rfl (st_as (v := .int _ _) rfl) ?_
      refine WL_nil ?_
      refine W_ret ?_
      refine qr2 ?_
      exact ⟨false, _, rfl, .inr (.inl ⟨Decidable.not_not.1 g11, g16, rfl, rfl⟩), hx0⟩
    · have g16 := of_decide_eq_false h16
      refine W_skip ?_
      refine W_seq ?_
      refine W_region ?_
      refine WL_val rfl rfl rfl (st_loada ⟨_, Tryd.underlying24, rfl⟩ ti24 rfl hb2.cells rfl) ?_
      refine WL_val rfl rfl rfl (st_mv (v := .string _) rfl) ?_
      refine WL_call rfl rfl rfl (matches_ok rt dr ps n _ t _ (by have := hx0.size; omega) hps hts) (ent_go rfl) ?_
      rintro _ w8 ⟨b, rfl, hb, hx9⟩
      replace hx0 := hx0.ext hx9
      replace hps := hps.ext hx9
      replace hb2 := hb2.ext hx9
      refine WL_val rfl rfl rfl (st_as (v := .bool _) rfl) ?_
      refine WL_val rfl rfl rfl (st_as (v := (.int .i64 0)) rfl) ?_
      refine WL_nil ?_
      refine W_ret ?_
      refine qr2 ?_
      exact ⟨b, _, rfl, .inr (.inr ⟨Decidable.not_not.1 g11, Decidable.not_not.1 g16, rfl, hb⟩), hx0⟩
end Go.Proofs.YtndfhicdabdafaaDoor
