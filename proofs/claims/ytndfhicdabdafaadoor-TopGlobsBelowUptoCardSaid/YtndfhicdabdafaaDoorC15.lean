/- Walks of part and list of the net. -/
import Derived.Test.YtndfhicdabdafaaDoorC14
namespace Go.Proofs.YtndfhicdabdafaaDoor
open Go Go.RowKit

mutual
/-- How many states a part adds, at most. -/
def Part.nst : Part → Nat
  | .mk _ t _ _ ws => 1 + t.size + nstW ws
def nstL : List Part → Nat
  | [] => 0
  | p :: ps => p.nst + nstL ps
def nstW : List (List Part) → Nat
  | [] => 0
  | x :: xs => 1 + nstL x + nstW xs
end
mutual
/-- Every kind lies in 1..6. -/
def Part.kinds : Part → Prop
  | .mk k _ _ _ ws => (1 ≤ k ∧ k ≤ 6) ∧ kindsW ws
def kindsL : List Part → Prop
  | [] => True
  | p :: ps => p.kinds ∧ kindsL ps
def kindsW : List (List Part) → Prop
  | [] => True
  | x :: xs => kindsL x ∧ kindsW xs
end
theorem Part.nst_eq (p : Part) : p.nst = 1 + p.text.size + nstW p.ways := by cases p; simp only [Part.nst]; rfl
theorem Part.kinds_eq (p : Part) : p.kinds = ((1 ≤ p.kind ∧ p.kind ≤ 6) ∧ kindsW p.ways) := by cases p; simp only [Part.kinds]; rfl
theorem nstL_cons (p : Part) (ps : List Part) : nstL (p :: ps) = p.nst + nstL ps := by rw [nstL]
theorem nstW_cons (x : List Part) (xs : List (List Part)) : nstW (x :: xs) = 1 + nstL x + nstW xs := by rw [nstW]
theorem nstL_nil : nstL [] = 0 := by rw [nstL]
theorem nstW_nil : nstW [] = 0 := by rw [nstW]
theorem nstL_append (a b : List Part) : nstL (a ++ b) = nstL a + nstL b := by
  induction a with
  | nil => rw [List.nil_append, nstL_nil, Nat.zero_add]
  | cons p a ih => rw [List.cons_append, nstL_cons, nstL_cons, ih]; omega
theorem nstW_append (a b : List (List Part)) : nstW (a ++ b) = nstW a + nstW b := by
  induction a with
  | nil => rw [List.nil_append, nstW_nil, Nat.zero_add]
  | cons p a ih => rw [List.cons_append, nstW_cons, nstW_cons, ih]; omega
theorem kindsL_mem {ps : List Part} (h : kindsL ps) {p : Part} (hp : p ∈ ps) : p.kinds := by
  induction ps with
  | nil => cases hp
  | cons q ps ih =>
    rw [kindsL] at h
    rcases List.mem_cons.1 hp with rfl | hp
    · exact h.1
    · exact ih h.2 hp
theorem kindsW_mem {ws : List (List Part)} (h : kindsW ws) {p : List Part} (hp : p ∈ ws) : kindsL p := by
  induction ws with
  | nil => cases hp
  | cons q ws ih =>
    rw [kindsW] at h
    rcases List.mem_cons.1 hp with rfl | hp
    · exact h.1
    · exact ih h.2 hp
theorem nst_take {ps : List Part} {k : Nat} (h : k < ps.length) : nstL (ps.take (k + 1)) = nstL (ps.take k) + ps[k].nst := by
  rw [List.take_succ_eq_append_getElem h, nstL_append, nstL_cons, nstL_nil]; omega
theorem nst_take_le (ps : List Part) (k : Nat) : nstL (ps.take k) ≤ nstL ps := by
  have := nstL_append (ps.take k) (ps.drop k)
  rw [List.take_append_drop] at this
  omega
theorem nstW_take {ps : List (List Part)} {k : Nat} (h : k < ps.length) : nstW (ps.take (k + 1)) = nstW (ps.take k) + 1 + nstL ps[k] := by
  rw [List.take_succ_eq_append_getElem h, nstW_append, nstW_cons, nstW_nil]; omega
theorem nstW_take_le (ps : List (List Part)) (k : Nat) : nstW (ps.take k) ≤ nstW ps := by
  have := nstW_append (ps.take k) (ps.drop k)
  rw [List.take_append_drop] at this
  omega
theorem Few.lt {k : Nat} {N : NetL} (h : Few k N) {q : Nat} (hl : N.length ≤ 500000000) : (arws N q).length < 1099511627 := by
  have := h q
  omega
theorem Bui.byte {s0 : Nat} {N N' : NetL} {fr fr' j : Nat} {l : List UInt8} (h : Bui s0 (fun z => z = l.take j) N fr N' fr') (hj : j < l.length) (hs : s0 < N'.length) {c : UInt8} (hc : c = l[j]) :
    Bui s0 (fun z => z = l.take (j + 1)) N fr (addAr (addSt N') fr' ⟨N'.length, some (· == c)⟩) N'.length := by
  refine (h.comp (Bui.single h.val h.lt hs (· == c))).iff fun z => ?_
  rw [List.take_succ_eq_append_getElem hj]
  constructor
  · rintro ⟨x, y, rfl, rfl, d, rfl, hd⟩
    rw [beq_iff_eq] at hd
    rw [hd, hc]
  · rintro rfl
    exact ⟨_, _, rfl, rfl, _, rfl, by rw [hc]; simp⟩
theorem Wys.iff {s0 : Nat} {L L' : List UInt8 → Prop} {N N' : NetL} {fr : Nat} (h : Wys s0 L N fr N') (e : ∀ l, L l ↔ L' l) : Wys s0 L' N fr N' :=
  { h with lang := fun l => (h.lang l).trans ⟨fun ⟨a, b, h1, h2, h3⟩ => ⟨a, b, h1, h2, (e _).1 h3⟩, fun ⟨a, b, h1, h2, h3⟩ => ⟨a, b, h1, h2, (e _).2 h3⟩⟩ }
theorem Net.val {w : World} {n base nb : Nat} {N : NetL} (h : Net w n base nb N) : N.length ≤ 1099511627 := let ⟨_, _, _, _, _, _, _, _, _, _, h⟩ := h; h
def ListOk (ps : List Part) : Prop := ∀ (n base nb s0 fr k : Nat) (N : NetL) (v : Value) (w : World), Net w n base nb N → n ≤ base → base ≤ w.heap.size → Val N → s0 < N.length → fr < N.length → Few k N → kindsL ps → N.length + nstL ps ≤ 500000000 → PartsAt (· < n) w v ps →
    Fun Tryd.prog 31 [.pointer (some ⟨nb, 0, none⟩), v, .int .i64 (fr : Int)] w (fun r w' => ∃ (to : Nat) (N' : NetL), r = .int .i64 (to : Int) ∧ Net w' n base nb N' ∧ NStep base w w' ∧ Bui s0 (LP ps) N fr N' to ∧ Few k N' ∧ N'.length ≤ N.length + nstL ps)

set_option maxHeartbeats 2000000 in
theorem part_of (M : Nat) (ih : ∀ ps, cntP ps < M → ListOk ps) (p : Part) (hp : p.cnt ≤ M) (n base nb s0 fr k : Nat) (N : NetL) (ra wa : Option Addr) (rc wc : Nat) (w : World) (hN : Net w n base nb N) (hn : n ≤ base) (hbs : base ≤ w.heap.size) (hv : Val N) (hs0 : s0 < N.length) (hfr : fr < N.length) (hfew : Few k N) (hkd : p.kinds)
    (hsz : N.length + p.nst ≤ 500000000) (hpr : RangesAt (· < n) w (.slice ra p.ranges.length rc) p.ranges) (hpwO : WaysAt (· < n) w (.slice wa p.ways.length wc) p.ways) :
    Fun Tryd.prog 46 [.pointer (some ⟨nb, 0, none⟩), .agg #[.int .i64 p.kind, .string p.text, .bool p.neg, .slice ra p.ranges.length rc, .slice wa p.ways.length wc], .int .i64 (fr : Int)] w (fun r w' => ∃ (to : Nat) (N' : NetL), r = .int .i64 (to : Int) ∧ Net w' n base nb N' ∧ NStep base w w' ∧ Bui s0 (Lp p) N fr N' to ∧ Few k N' ∧ N'.length ≤ N.length + p.nst) := by
  obtain ⟨_, _, _, hwl⟩ := hpwO.form
  have hpw := hpwO
  have hs : NStep base w w := NStep.refl _ _
  rw [Part.kinds_eq] at hkd
  obtain ⟨hkd, hkw⟩ := hkd
  have hnst := p.nst_eq
  refine fun1 Tryd.func46 rfl (by kernel_rfl) rfl rfl rfl ?_
  refine W_seq ?_
  refine W_region ?_
  refine WL_ef (ef_box (cs := [_, _, _, _, _]) rfl) rfl rfl rfl ?_
  rintro _ w2 ⟨b1, rfl, hl4, hb4, hx3⟩
  replace hs := hs.ext hx3
  replace hN := hN.ext hx3
  replace hpr := hpr.ext hx3
  replace hpw := hpw.ext hx3
  refine WL_val rfl rfl rfl (st_as (v := (.int .i64 0)) rfl) ?_
  refine WL_nil ?_
  refine W_seq ?_
  refine W_seq ?_
  have hbp : Blk _ b1 33 (partCells p ra wa rc wc) := hb4
  refine W_region ?_
  refine WL_val rfl rfl rfl (st_fieldAddr (off := 0) Tryd.underlying33 rfl rfl ti3 rfl) ?_
  refine WL_val rfl rfl rfl (st_load ⟨_, Tryd.underlying3, rfl⟩ rfl (hb4.cell 0 rfl)) ?_
  refine WL_nil ?_
  refine W_block ?_
  refine W_seq ?_
  refine W_region ?_
  refine WL_val rfl rfl rfl (st_eql rfl rfl) ?_
  refine WL_val rfl rfl rfl (st_as (v := .bool _) rfl) ?_
  refine WL_nil ?_
  refine W_cond rfl (fun h18 => ?_) (fun h18 => ?_)
  · have g18 := of_decide_eq_true h18
    refine W_seq ?_
    refine W_seq ?_
    refine W_region ?_
    refine WL_val rfl rfl rfl (st_fieldAddr (off := 1) Tryd.underlying33 rfl rfl ti9 rfl) ?_
    refine WL_val rfl rfl rfl (st_load ⟨_, Tryd.underlying9, rfl⟩ rfl (hb4.cell 1 rfl)) ?_
    refine WL_val rfl rfl rfl (st_lens Tryd.underlying9 rfl) ?_
    refine WL_val rfl rfl rfl (st_mv (v := (.int .i64 0)) rfl) ?_
    refine WL_nil ?_
    refine W_block ?_
    refine W_loop [2, 23] [2, 7, 8, 9, 23, 24, 25, 26, 27, 28, 29, 30, 31, 32, 33, 34, 35, 36, 37, 38] (fun m vs w1 => ∃ (j fr' : Nat) (N' : NetL), j + m = p.text.size ∧ vs = [.int .i64 (fr' : Int), .int .i64 (j : Int)] ∧ Net w1 n base nb N' ∧ NStep base w w1 ∧ Bui s0 (fun l => l = (byts p.text).take j) N fr N' fr' ∧ Few k N' ∧ N'.length = N.length + j ∧ Blk w1 b1 33 (partCells p ra wa rc wc)) ?_ ?_
    · exact ⟨p.text.size, 0, fr, N, by omega, rfl, hN, hs, (Bui.nil hv hfr).iff (fun l => by simp), hfew, by omega, hbp⟩
    · intro m vs w4 u hI
      obtain ⟨j, fr', N', hj, rfl, hN, hs, hB, hF, hNl, hbp⟩ := hI
      have hBlt := hB.lt
      refine W_seq ?_
      refine W_region ?_
      refine WL_val rfl rfl rfl (st_lss rfl rfl) ?_
      refine WL_nil ?_
      refine W_seq ?_
      refine W_cond rfl (fun h24 => ?_) (fun h24 => ?_)
      · have g24 := of_decide_eq_true h24
        refine W_skip ?_
        refine W_seq ?_
        refine W_block ?_
        refine W_seq ?_
        refine W_region ?_
        refine WL_val rfl rfl rfl (st_mv (v := .int _ _) rfl) ?_
        refine WL_val rfl rfl rfl (st_as (v := .int _ _) rfl) ?_
        refine WL_nil ?_
        refine W_seq ?_
        refine W_held 9 8 (fun w9 => Blk w9 b1 33 (partCells p ra wa rc wc)) mixed rfl ?_
        intro w5 hcur hheap
        obtain ⟨gsq, hNq⟩ := hN.ext hcur
        have hbq := hbp.ext hcur
        have hsq : NStep base w w5 := NStep.ext hs hcur
        refine WH_take 0 rfl rfl rfl rfl (by kernel_rfl) (fun _ _ _ h => np1 h) hbq (fun w' hx' => st_fieldAddr (off := 1) Tryd.underlying33 rfl rfl ti9 rfl) ?_
        refine WH_take 1 rfl rfl rfl rfl (by kernel_rfl) (fun _ _ _ h => np1 h) hbq (fun w' hx' => st_load ⟨_, Tryd.underlying9, rfl⟩ rfl (hx'.cell 1 rfl)) ?_
        refine WH_take 2 rfl rfl rfl rfl (by kernel_rfl) (fun _ _ _ h => np1 h) hbq (fun w' hx' => st_mv (v := .int _ _) rfl) ?_
        refine WH_take 3 rfl rfl rfl rfl (by kernel_rfl) (fun _ _ _ h => np1 h) hbq (fun w' hx' => st_index (s := p.text) (i := j) Tryd.underlying9 rfl rfl (by omega)) ?_
        refine WH_take 4 rfl rfl rfl rfl (by kernel_rfl) (fun _ _ _ h => np1 h) hbq (fun w' hx' => st_mv (v := .pointer _) rfl) ?_
        refine WH_two (i := 5) (j := 6) (by kernel_rfl) ?_ ?_
        · refine WHi_call rfl rfl rfl rfl (state_ok n w5.heap.size base nb N' gsq _ hNq hn (by have := Fro.size hsq; omega) (by omega)) (ent_go rfl) ?_
          rintro _ vA ⟨rfl, gsa, hNa, hsb⟩
          have hbx := hbq.nstep hsb (by decide)
          refine ⟨fun _ => hbx, ?_⟩
          refine WH_one (i := 6) (by kernel_rfl) ?_
          refine WHi_ef (ef_alloc ti5) rfl rfl rfl rfl ?_
          rintro _ vB ⟨b8, rfl, hl8, hb8, hx8⟩
          replace hNa := hNa.ext hx8
          have hbb := hbx.ext hx8
          replace hl8 : w5.heap.size ≤ b8 := Nat.le_trans (Fro.size hsb) hl8
          replace hsb := hsb.ext hx8
          refine ⟨fun _ => hbb, ?_⟩
          refine WH_one (i := 7) (by kernel_rfl) ?_
          have hoff := offB (X := NetT) (n := n) hb8 (.inl rfl) hl8 (by have := Fro.size hsq; omega)
          have hne : b1 ≠ b8 := by have := hbq.lt; omega
          refine WHi_su (su_store ti5 rfl hb8 (Nat.le_of_ble_eq_true rfl) rfl rfl) rfl rfl rfl ?_
          rintro vC ⟨hb8c, hfc⟩
          have hN := (hNa.off hfc hoff).net (Nat.le_trans (Fro.size hsb) (Fro.size hfc))
          have hsc : NStep base w5 vC := Fro.trans_new hsb hfc (fun _ h => by subst h; exact hl8)
          have hbc := hbb.fro hfc hne
          refine ⟨fun _ => hbc, ?_⟩
          refine WH_one (i := 8) (by kernel_rfl) ?_
          refine WHi_val rfl rfl rfl rfl (st_as (v := .int _ _) rfl) (fun h => absurd rfl h) ?_
          refine WH_done (by kernel_rfl) ?_
          have hb8 : Blk vC b8 5 [.int .u8 ((p.text[j]'(by omega)).toNat : Int)] := hb8c
          have hbp := hbc
          have hs := hsq.trans hsc
          refine W_seq ?_
          refine W_region ?_
          refine WL_val rfl rfl rfl (st_mv (v := .pointer _) rfl) ?_
          refine WL_val rfl rfl rfl (st_mv (v := .int _ _) rfl) ?_
          refine WL_val rfl rfl rfl (st_mv (v := .int _ _) rfl) ?_
          refine WL_val rfl rfl rfl (st_makeFunc (vf := []) (vc := [.pointer _]) rfl rfl) ?_
          refine WL_call rfl rfl rfl (arrow_fn_net n base nb (addSt N') _ hN hn (by have := Fro.size hs; omega) (fr') (N'.length) (by rw [addSt_len]; omega) ((· == p.text[j]'(by omega))) _ _ _ (.inl ⟨_, _, hb8.lt, rfl, hb8, rfl⟩) (Few.lt hF.st (by rw [addSt_len]; omega))) (ent_go rfl) ?_
          rintro _ w6 ⟨rfl, hN1, hx7⟩
          replace hN := hN1; clear hN1
          replace hs := hs.trans hx7
          replace hbp := hbp.nstep hx7 (by decide)
          replace hb8 := hb8.nstep hx7 (by decide)
          refine WL_nil ?_
          refine W_region ?_
          refine WL_val rfl rfl rfl (st_mv (v := .int _ _) rfl) ?_
          refine WL_val rfl rfl rfl (st_as (v := .int _ _) rfl) ?_
          refine WL_nil ?_
          refine W_region ?_
          refine WL_val rfl rfl rfl (st_add rfl rfl (by omega) (by omega)) ?_
          refine WL_val rfl rfl rfl (st_mv (v := .int _ _) rfl) ?_
          refine WL_nil ?_
          refine rnd_end ?_ (m - 1) ?_ ?_
          · repeat (first | exact agree_in rfl rfl (agree_refl _ _) | exact agree_refl _ _ | refine agree_in rfl rfl ?_ | refine agree_upd rfl ?_)
          · omega
          · exact ⟨j + 1, N'.length, _, by omega, vec2 rfl rfl, hN, hs, hB.byte (c := p.text[j]'(by omega)) (by rw [byts_length]; omega) (by omega) rfl, (hF.st.mono (by omega)).ar (by rw [addSt_len]; omega), by rw [addAr_len, addSt_len]; omega, hbp⟩
        · refine WHi_ef (ef_alloc ti5) rfl rfl rfl rfl ?_
          rintro _ vA ⟨b8, rfl, hl8, hb8, hx8⟩
          have hNb := hNq.ext hx8
          have hbx := hbq.ext hx8
          have hsb : NStep base w5 vA := NStep.of_ext hx8
          refine ⟨fun _ => hbx, ?_⟩
          refine WH_one (i := 5) (by kernel_rfl) ?_
          refine WHi_call rfl rfl rfl rfl (state_ok n w5.heap.size base nb N' gsq _ hNb hn (by have := Fro.size hsb; have := Fro.size hsq; omega) (by omega)) (ent_go rfl) ?_
          rintro _ vB ⟨rfl, gsa, hNa, hsa⟩
          have hbb := hbx.nstep hsa (by decide)
          replace hsb := hsb.trans hsa
          replace hb8 := hb8.nstep hsa (by decide)
          refine ⟨fun _ => hbb, ?_⟩
          refine WH_one (i := 7) (by kernel_rfl) ?_
          have hoff := offB (X := NetT) (n := n) hb8 (.inl rfl) hl8 (by have := Fro.size hsq; omega)
          have hne : b1 ≠ b8 := by have := hbq.lt; omega
          refine WHi_su (su_store ti5 rfl hb8 (Nat.le_of_ble_eq_true rfl) rfl rfl) rfl rfl rfl ?_
          rintro vC ⟨hb8c, hfc⟩
          have hN := (hNa.off hfc hoff).net (Nat.le_trans (Fro.size hsb) (Fro.size hfc))
          have hsc : NStep base w5 vC := Fro.trans_new hsb hfc (fun _ h => by subst h; exact hl8)
          have hbc := hbb.fro hfc hne
          refine ⟨fun _ => hbc, ?_⟩
          refine WH_one (i := 8) (by kernel_rfl) ?_
          refine WHi_val rfl rfl rfl rfl (st_as (v := .int _ _) rfl) (fun h => absurd rfl h) ?_
          refine WH_done (by kernel_rfl) ?_
          have hb8 : Blk vC b8 5 [.int .u8 ((p.text[j]'(by omega)).toNat : Int)] := hb8c
          have hbp := hbc
          have hs := hsq.trans hsc
          refine W_seq ?_
          refine W_region ?_
          refine WL_val rfl rfl rfl (st_mv (v := .pointer _) rfl) ?_
          refine WL_val rfl rfl rfl (st_mv (v := .int _ _) rfl) ?_
          refine WL_val rfl rfl rfl (st_mv (v := .int _ _) rfl) ?_
          refine WL_val rfl rfl rfl (st_makeFunc (vf := []) (vc := [.pointer _]) rfl rfl) ?_
          refine WL_call rfl rfl rfl (arrow_fn_net n base nb (addSt N') _ hN hn (by have := Fro.size hs; omega) (fr') (N'.length) (by rw [addSt_len]; omega) ((· == p.text[j]'(by omega))) _ _ _ (.inl ⟨_, _, hb8.lt, rfl, hb8, rfl⟩) (Few.lt hF.st (by rw [addSt_len]; omega))) (ent_go rfl) ?_
          rintro _ w8 ⟨rfl, hN1, hx9⟩
          replace hN := hN1; clear hN1
          replace hs := hs.trans hx9
          replace hbp := hbp.nstep hx9 (by decide)
          replace hb8 := hb8.nstep hx9 (by decide)
          refine WL_nil ?_
          refine W_region ?_
          refine WL_val rfl rfl rfl (st_mv (v := .int _ _) rfl) ?_
          refine WL_val rfl rfl rfl (st_as (v := .int _ _) rfl) ?_
          refine WL_nil ?_
          refine W_region ?_
          refine WL_val rfl rfl rfl (st_add rfl rfl (by omega) (by omega)) ?_
          refine WL_val rfl rfl rfl (st_mv (v := .int _ _) rfl) ?_
          refine WL_nil ?_
          refine rnd_end ?_ (m - 1) ?_ ?_
          · repeat (first | exact agree_in rfl rfl (agree_refl _ _) | exact agree_refl _ _ | refine agree_in rfl rfl ?_ | refine agree_upd rfl ?_)
          · omega
          · exact ⟨j + 1, N'.length, _, by omega, vec2 rfl rfl, hN, hs, hB.byte (c := p.text[j]'(by omega)) (by rw [byts_length]; omega) (by omega) rfl, (hF.st.mono (by omega)).ar (by rw [addSt_len]; omega), by rw [addAr_len, addSt_len]; omega, hbp⟩
      · have g24 := of_decide_eq_false h24
        refine W_exit ?_
        refine W_seq ?_
        refine W_region ?_
        refine WL_val rfl rfl rfl (st_mv (v := .int _ _) rfl) ?_
        refine WL_val rfl rfl rfl (st_as (v := .int _ _) rfl) ?_
        refine WL_nil ?_
        refine W_ret ?_
        refine qr1 ?_
        exact ⟨fr', N', rfl, hN, hs, hB.iff (fun l => by rw [Lp_text g18, List.take_of_length_le (by rw [byts_length]; omega)]), hF, by rw [Part.nst_eq]; omega⟩
  · have g18 := of_decide_eq_false h18
    refine W_seq ?_
    refine W_seq ?_
    refine W_region ?_
    refine WL_val rfl rfl rfl (st_eql rfl rfl) ?_
    refine WL_val rfl rfl rfl (st_as (v := .bool _) rfl) ?_
    refine WL_nil ?_
    refine W_cond rfl (fun h40 => ?_) (fun h40 => ?_)
    · have g40 := of_decide_eq_true h40
      refine W_skip ?_
      refine W_yes (congrArg Value.bool h40) ?_
      refine W_seq ?_
      have hk2 : p.kind = 2 ∨ p.kind = 5 := by omega
      refine W_region ?_
      refine WL_val rfl rfl rfl (st_mv (v := .pointer _) rfl) ?_
      refine WL_call rfl rfl rfl (state_net n base nb N _ hN hn (by have := Fro.size hs; omega) (by omega)) (ent_go rfl) ?_
      rintro _ w10 ⟨rfl, hN1, hx11⟩
      replace hN := hN1; clear hN1
      replace hs := hs.trans hx11
      replace hpr := hpr.nstep hx11 hn
      replace hpw := hpw.nstep hx11 hn
      replace hb4 := hb4.nstep hx11 (by decide)
      replace hbp := hbp.nstep hx11 (by decide)
      refine WL_val rfl rfl rfl (st_as (v := .int _ _) rfl) ?_
      refine WL_nil ?_
      refine W_seq ?_
      refine W_region ?_
      refine WL_val rfl rfl rfl (st_mv (v := .pointer _) rfl) ?_
      refine WL_val rfl rfl rfl (st_mv (v := .int _ _) rfl) ?_
      refine WL_val rfl rfl rfl (st_mv (v := .int _ _) rfl) ?_
      refine WL_val rfl rfl rfl (st_makeFunc (vf := []) (vc := [.pointer _]) rfl rfl) ?_
      refine WL_call rfl rfl rfl (arrow_fn_net n base nb (addSt N) _ hN hn (by have := Fro.size hs; omega) (fr) (N.length) (by rw [addSt_len]; omega) ((oneB p)) _ _ _ (.inr (.inl ⟨_, p, ra, rc, wa, wc, hbp.lt, rfl, hbp, hpr, rfl⟩)) (Few.lt hfew.st (by rw [addSt_len]; omega))) (ent_go rfl) ?_
      rintro _ w12 ⟨rfl, hN1, hx13⟩
      replace hN := hN1; clear hN1
      replace hs := hs.trans hx13
      replace hpr := hpr.nstep hx13 hn
      replace hpw := hpw.nstep hx13 hn
      replace hb4 := hb4.nstep hx13 (by decide)
      replace hbp := hbp.nstep hx13 (by decide)
      refine WL_nil ?_
      refine W_seq ?_
      refine W_region ?_
      refine WL_val rfl rfl rfl (st_mv (v := .int _ _) rfl) ?_
      refine WL_val rfl rfl rfl (st_as (v := .int _ _) rfl) ?_
      refine WL_nil ?_
      refine W_ret ?_
      refine qr1 ?_
      exact ⟨N.length, _, rfl, hN, hs, (Bui.single hv hfr hs0 (oneB p)).iff (fun l => (Lp_onep hk2 l).symm), (hfew.st.mono (by omega)).ar (by rw [addSt_len]; omega), by rw [addAr_len, addSt_len, Part.nst_eq]; omega⟩
    · have g40 := of_decide_eq_false h40
      refine W_region ?_
      refine WL_val rfl rfl rfl (st_eql rfl rfl) ?_
      refine WL_val rfl rfl rfl (st_as (v := .bool _) rfl) ?_
      refine WL_nil ?_
      refine W_cond rfl (fun h40 => ?_) (fun h40 => ?_)
      · have g40 := of_decide_eq_true h40
        refine W_seq ?_
        have hk2 : p.kind = 2 ∨ p.kind = 5 := by omega
        refine W_region ?_
        refine WL_val rfl rfl rfl (st_mv (v := .pointer _) rfl) ?_
        refine WL_call rfl rfl rfl (state_net n base nb N _ hN hn (by have := Fro.size hs; omega) (by omega)) (ent_go rfl) ?_
        rintro _ w14 ⟨rfl, hN1, hx15⟩
        replace hN := hN1; clear hN1
        replace hs := hs.trans hx15
        replace hpr := hpr.nstep hx15 hn
        replace hpw := hpw.nstep hx15 hn
        replace hb4 := hb4.nstep hx15 (by decide)
        replace hbp := hbp.nstep hx15 (by decide)
        refine WL_val rfl rfl rfl (st_as (v := .int _ _) rfl) ?_
        refine WL_nil ?_
        refine W_seq ?_
        refine W_region ?_
        refine WL_val rfl rfl rfl (st_mv (v := .pointer _) rfl) ?_
        refine WL_val rfl rfl rfl (st_mv (v := .int _ _) rfl) ?_
        refine WL_val rfl rfl rfl (st_mv (v := .int _ _) rfl) ?_
        refine WL_val rfl rfl rfl (st_makeFunc (vf := []) (vc := [.pointer _]) rfl rfl) ?_
        refine WL_call rfl rfl rfl (arrow_fn_net n base nb (addSt N) _ hN hn (by have := Fro.size hs; omega) (fr) (N.length) (by rw [addSt_len]; omega) ((oneB p)) _ _ _ (.inr (.inl ⟨_, p, ra, rc, wa, wc, hbp.lt, rfl, hbp, hpr, rfl⟩)) (Few.lt hfew.st (by rw [addSt_len]; omega))) (ent_go rfl) ?_
        rintro _ w16 ⟨rfl, hN1, hx17⟩
        replace hN := hN1; clear hN1
        replace hs := hs.trans hx17
        replace hpr := hpr.nstep hx17 hn
        replace hpw := hpw.nstep hx17 hn
        replace hb4 := hb4.nstep hx17 (by decide)
        replace hbp := hbp.nstep hx17 (by decide)
        refine WL_nil ?_
        refine W_seq ?_
        refine W_region ?_
        refine WL_val rfl rfl rfl (st_mv (v := .int _ _) rfl) ?_
        refine WL_val rfl rfl rfl (st_as (v := .int _ _) rfl) ?_
        refine WL_nil ?_
        refine W_ret ?_
        refine qr1 ?_
        exact ⟨N.length, _, rfl, hN, hs, (Bui.single hv hfr hs0 (oneB p)).iff (fun l => (Lp_onep hk2 l).symm), (hfew.st.mono (by omega)).ar (by rw [addSt_len]; omega), by rw [addAr_len, addSt_len, Part.nst_eq]; omega⟩
      · have g40 := of_decide_eq_false h40
        refine W_seq ?_
        refine W_seq ?_
        refine W_region ?_
        refine WL_val rfl rfl rfl (st_eql rfl rfl) ?_
        refine WL_val rfl rfl rfl (st_as (v := .bool _) rfl) ?_
        refine WL_nil ?_
        refine W_cond rfl (fun h51 => ?_) (fun h51 => ?_)
        · have g51 := of_decide_eq_true h51
          refine W_skip ?_
          refine W_yes (congrArg Value.bool h51) ?_
          refine W_seq ?_
          have hk3 : p.kind = 3 ∨ p.kind = 4 := by omega
          refine W_region ?_
          refine WL_val rfl rfl rfl (st_mv (v := .pointer _) rfl) ?_
          refine WL_call rfl rfl rfl (state_net n base nb N _ hN hn (by have := Fro.size hs; omega) (by omega)) (ent_go rfl) ?_
          rintro _ w18 ⟨rfl, hN1, hx19⟩
          replace hN := hN1; clear hN1
          replace hs := hs.trans hx19
          replace hpr := hpr.nstep hx19 hn
          replace hpw := hpw.nstep hx19 hn
          replace hb4 := hb4.nstep hx19 (by decide)
          replace hbp := hbp.nstep hx19 (by decide)
          refine WL_val rfl rfl rfl (st_as (v := .int _ _) rfl) ?_
          refine WL_nil ?_
          refine W_seq ?_
          refine W_region ?_
          refine WL_val rfl rfl rfl (st_mv (v := .pointer _) rfl) ?_
          refine WL_val rfl rfl rfl (st_mv (v := .int _ _) rfl) ?_
          refine WL_val rfl rfl rfl (st_mv (v := .int _ _) rfl) ?_
          refine WL_call rfl rfl rfl (arrow_nil_net n base nb (addSt N) _ hN hn (by have := Fro.size hs; omega) (fr) (N.length) (by rw [addSt_len]; omega) (Few.lt hfew.st (by rw [addSt_len]; omega))) (ent_go rfl) ?_
          rintro _ w20 ⟨rfl, hN1, hx21⟩
          replace hN := hN1; clear hN1
          replace hs := hs.trans hx21
          replace hpr := hpr.nstep hx21 hn
          replace hpw := hpw.nstep hx21 hn
          replace hb4 := hb4.nstep hx21 (by decide)
          replace hbp := hbp.nstep hx21 (by decide)
          refine WL_nil ?_
          refine W_seq ?_
          refine W_region ?_
          refine WL_val rfl rfl rfl (st_mv (v := .pointer _) rfl) ?_
          refine WL_val rfl rfl rfl (st_mv (v := .int _ _) rfl) ?_
          refine WL_val rfl rfl rfl (st_mv (v := .int _ _) rfl) ?_
          refine WL_val rfl rfl rfl (st_makeFunc (vf := []) (vc := [.pointer _]) rfl rfl) ?_
          refine WL_call rfl rfl rfl (arrow_fn_net n base nb (addAr (addSt N) fr ⟨N.length, none⟩) _ hN hn (by have := Fro.size hs; omega) (N.length) (N.length) (by rw [addAr_len, addSt_len]; omega) ((starB p.kind)) _ _ _ (.inr (.inr ⟨_, p, ra, rc, wa, wc, hbp.lt, rfl, hbp, rfl⟩)) (Few.lt (k := k + 1) (hfew.st.ar (by rw [addSt_len]; omega)) (by rw [addAr_len, addSt_len]; omega))) (ent_go rfl) ?_
          rintro _ w22 ⟨rfl, hN1, hx23⟩
          replace hN := hN1; clear hN1
          replace hs := hs.trans hx23
          replace hpr := hpr.nstep hx23 hn
          replace hpw := hpw.nstep hx23 hn
          replace hb4 := hb4.nstep hx23 (by decide)
          replace hbp := hbp.nstep hx23 (by decide)
          refine WL_nil ?_
          refine W_seq ?_
          refine W_region ?_
          refine WL_val rfl rfl rfl (st_mv (v := .int _ _) rfl) ?_
          refine WL_val rfl rfl rfl (st_as (v := .int _ _) rfl) ?_
          refine WL_nil ?_
          refine W_ret ?_
          refine qr1 ?_
          exact ⟨N.length, _, rfl, hN, hs, (Bui.star hv hfr hs0 (starB p.kind)).iff (fun l => (Lp_star hk3 l).symm), (hfew.st.ar (by rw [addSt_len]; omega)).ar (by rw [addAr_len, addSt_len]; omega), by rw [addAr_len, addAr_len, addSt_len, Part.nst_eq]; omega⟩
        · have g51 := of_decide_eq_false h51
          refine W_region ?_
          refine WL_val rfl rfl rfl (st_eql rfl rfl) ?_
          refine WL_val rfl rfl rfl (st_as (v := .bool _) rfl) ?_
          refine WL_nil ?_
          refine W_cond rfl (fun h51 => ?_) (fun h51 => ?_)
          · have g51 := of_decide_eq_true h51
            refine W_seq ?_
            have hk3 : p.kind = 3 ∨ p.kind = 4 := by omega
            refine W_region ?_
            refine WL_val rfl rfl rfl (st_mv (v := .pointer _) rfl) ?_
            refine WL_call rfl rfl rfl (state_net n base nb N _ hN hn (by have := Fro.size hs; omega) (by omega)) (ent_go rfl) ?_
            rintro _ w24 ⟨rfl, hN1, hx25⟩
            replace hN := hN1; clear hN1
            replace hs := hs.trans hx25
            replace hpr := hpr.nstep hx25 hn
            replace hpw := hpw.nstep hx25 hn
            replace hb4 := hb4.nstep hx25 (by decide)
            replace hbp := hbp.nstep hx25 (by decide)
            refine WL_val rfl rfl rfl (st_as (v := .int _ _) rfl) ?_
            refine WL_nil ?_
            refine W_seq ?_
            refine W_region ?_
            refine WL_val rfl rfl rfl (st_mv (v := .pointer _) rfl) ?_
            refine WL_val rfl rfl rfl (st_mv (v := .int _ _) rfl) ?_
            refine WL_val rfl rfl rfl (st_mv (v := .int _ _) rfl) ?_
            refine WL_call rfl rfl rfl (arrow_nil_net n base nb (addSt N) _ hN hn (by have := Fro.size hs; omega) (fr) (N.length) (by rw [addSt_len]; omega) (Few.lt hfew.st (by rw [addSt_len]; omega))) (ent_go rfl) ?_
            rintro _ w26 ⟨rfl, hN1, hx27⟩
            replace hN := hN1; clear hN1
            replace hs := hs.trans hx27
            replace hpr := hpr.nstep hx27 hn
            replace hpw := hpw.nstep hx27 hn
            replace hb4 := hb4.nstep hx27 (by decide)
            replace hbp := hbp.nstep hx27 (by decide)
            refine WL_nil ?_
            refine W_seq ?_
            refine W_region ?_
            refine WL_val rfl rfl rfl (st_mv (v := .pointer _) rfl) ?_
            refine WL_val rfl rfl rfl (st_mv (v := .int _ _) rfl) ?_
            refine WL_val rfl rfl rfl (st_mv (v := .int _ _) rfl) ?_
            refine WL_val rfl rfl rfl (st_makeFunc (vf := []) (vc := [.pointer _]) rfl rfl) ?_
            refine WL_call rfl rfl rfl (arrow_fn_net n base nb (addAr (addSt N) fr ⟨N.length, none⟩) _ hN hn (by have := Fro.size hs; omega) (N.length) (N.length) (by rw [addAr_len, addSt_len]; omega) ((starB p.kind)) _ _ _ (.inr (.inr ⟨_, p, ra, rc, wa, wc, hbp.lt, rfl, hbp, rfl⟩)) (Few.lt (k := k + 1) (hfew.st.ar (by rw [addSt_len]; omega)) (by rw [addAr_len, addSt_len]; omega))) (ent_go rfl) ?_
            rintro _ w28 ⟨rfl, hN1, hx29⟩
            replace hN := hN1; clear hN1
            replace hs := hs.trans hx29
            replace hpr := hpr.nstep hx29 hn
            replace hpw := hpw.nstep hx29 hn
            replace hb4 := hb4.nstep hx29 (by decide)
            replace hbp := hbp.nstep hx29 (by decide)
            refine WL_nil ?_
            refine W_seq ?_
            refine W_region ?_
            refine WL_val rfl rfl rfl (st_mv (v := .int _ _) rfl) ?_
            refine WL_val rfl rfl rfl (st_as (v := .int _ _) rfl) ?_
            refine WL_nil ?_
            refine W_ret ?_
            refine qr1 ?_
            exact ⟨N.length, _, rfl, hN, hs, (Bui.star hv hfr hs0 (starB p.kind)).iff (fun l => (Lp_star hk3 l).symm), (hfew.st.ar (by rw [addSt_len]; omega)).ar (by rw [addAr_len, addSt_len]; omega), by rw [addAr_len, addAr_len, addSt_len, Part.nst_eq]; omega⟩
          · have g51 := of_decide_eq_false h51
            refine W_skip ?_
            refine W_seq ?_
            have hk6 : p.kind = 6 := by omega
            refine W_region ?_
            refine WL_val rfl rfl rfl (st_mv (v := .pointer _) rfl) ?_
            refine WL_call rfl rfl rfl (state_net n base nb N _ hN hn (by have := Fro.size hs; omega) (by omega)) (ent_go rfl) ?_
            rintro _ w30 ⟨rfl, hN1, hx31⟩
            replace hN := hN1; clear hN1
            replace hs := hs.trans hx31
            replace hpr := hpr.nstep hx31 hn
            replace hpw := hpw.nstep hx31 hn
            replace hb4 := hb4.nstep hx31 (by decide)
            replace hbp := hbp.nstep hx31 (by decide)
            refine WL_val rfl rfl rfl (st_as (v := .int _ _) rfl) ?_
            refine WL_nil ?_
            refine W_seq ?_
            refine W_seq ?_
            refine W_region ?_
            refine WL_val rfl rfl rfl (st_fieldAddr (off := 4) Tryd.underlying33 rfl rfl ti31 rfl) ?_
            refine WL_val rfl rfl rfl (st_load ⟨_, Tryd.underlying31, rfl⟩ rfl (hb4.cell 4 rfl)) ?_
            refine WL_val rfl rfl rfl (st_len Tryd.underlying31 rfl) ?_
            refine WL_val rfl rfl rfl (st_mv (v := (.int .i64 0)) rfl) ?_
            refine WL_nil ?_
            refine W_block ?_
            refine W_loop [71] [14, 15, 71, 72, 73, 74, 75, 76, 77, 78, 79, 80, 81, 82, 83, 84, 85, 86, 87, 88] (fun m vs w1 => ∃ (jw : Nat) (N' : NetL), jw + m = p.ways.length ∧ vs = [.int .i64 (jw : Int)] ∧ Net w1 n base nb N' ∧ NStep base w w1 ∧ Wys s0 (LW (p.ways.take jw)) N fr N' ∧ Few (k + 2) N' ∧ N'.length ≤ N.length + 1 + nstW (p.ways.take jw)) ?_ ?_
            · exact ⟨p.ways.length, 0, _, by omega, rfl, hN, hs, (Wys.zero hv hs0).iff (fun l => by rw [List.take_zero, LW_nil]), hfew.st, by rw [addSt_len]; omega⟩
            · intro m3 vs w32 u hI
              obtain ⟨jw, N', hjw, rfl, hN, hs, hW, hF, hNl⟩ := hI
              have hpw := hpwO.nstep hs hn
              have hWl := hW.len
              refine W_seq ?_
              refine W_region ?_
              refine WL_val rfl rfl rfl (st_lss rfl rfl) ?_
              refine WL_nil ?_
              refine W_seq ?_
              refine W_cond rfl (fun h72 => ?_) (fun h72 => ?_)
              · have g72 := of_decide_eq_true h72
                refine W_skip ?_
                refine W_seq ?_
                refine W_block ?_
                refine W_seq ?_
                have hj' : jw < p.ways.length := by omega
                obtain ⟨wb, wo, wv, hwD, hwa, hwc, hwv⟩ := WaysAt.at hpw hj'
                have hle2 := cntW_drop p.ways jw
                rw [drop_at hj'] at hle2
                simp only [cntW] at hle2
                have hcq : cntP p.ways[jw] < M := by have := p.cnt_eq; omega
                have hnt := nstW_take hj'
                have hnl := nstW_take_le p.ways (jw + 1)
                have hne := p.nst_eq
                obtain ⟨va, vcp, rfl, hvl⟩ := hwv.form
                refine W_region ?_
                refine WL_val rfl rfl rfl (st_indexAddr Tryd.underlying31 ti22 rfl hwa rfl (by omega)) ?_
                refine WL_val rfl rfl rfl (st_load ⟨_, Tryd.underlying22, rfl⟩ rfl hwc) ?_
                refine WL_val rfl rfl rfl (st_as (v := .slice _ _ _) rfl) ?_
                refine WL_nil ?_
                refine W_seq ?_
                refine W_region ?_
                refine WL_val rfl rfl rfl (st_mv (v := .pointer _) rfl) ?_
                refine WL_call rfl rfl rfl (state_net n base nb N' _ hN hn (by have := Fro.size hs; omega) (by omega)) (ent_go rfl) ?_
                rintro _ w33 ⟨rfl, hN1, hx34⟩
                replace hN := hN1; clear hN1
                replace hs := hs.trans hx34
                replace hpw := hpw.nstep hx34 hn
                replace hwv := hwv.nstep hx34 hn
                refine WL_val rfl rfl rfl (st_as (v := .int _ _) rfl) ?_
                refine WL_nil ?_
                refine W_seq ?_
                refine W_region ?_
                refine WL_val rfl rfl rfl (st_mv (v := .pointer _) rfl) ?_
                refine WL_val rfl rfl rfl (st_mv (v := .int _ _) rfl) ?_
                refine WL_val rfl rfl rfl (st_mv (v := .int _ _) rfl) ?_
                refine WL_call rfl rfl rfl (arrow_nil_net n base nb (addSt N') _ hN hn (by have := Fro.size hs; omega) (fr) (N'.length) (by rw [addSt_len]; omega) (Few.lt hF.st (by rw [addSt_len]; omega))) (ent_go rfl) ?_
                rintro _ w35 ⟨rfl, hN1, hx36⟩
                replace hN := hN1; clear hN1
                replace hs := hs.trans hx36
                replace hpw := hpw.nstep hx36 hn
                replace hwv := hwv.nstep hx36 hn
                refine WL_nil ?_
                have hF1 : Few (k + 3) (addAr (addSt N') fr ⟨N'.length, none⟩) := hF.st.ar (by rw [addSt_len]; omega)
                have hv1 : Val (addAr (addSt N') fr ⟨N'.length, none⟩) := (Bui.one hW.val (by omega : fr < N'.length) (by omega : s0 < N'.length) ⟨N'.length, none⟩ rfl).2.1
                refine W_region ?_
                refine WL_val rfl rfl rfl (st_mv (v := .pointer _) rfl) ?_
                refine WL_val rfl rfl rfl (st_mv (v := .pointer _) rfl) ?_
                refine WL_val rfl rfl rfl (st_mv (v := .slice _ _ _) rfl) ?_
                refine WL_val rfl rfl rfl (st_mv (v := .int _ _) rfl) ?_
                refine WL_call rfl rfl rfl (ih _ hcq n base nb s0 N'.length (k + 3) (addAr (addSt N') fr ⟨N'.length, none⟩) _ _ hN hn (by have := Fro.size hs; omega) hv1 (by rw [addAr_len, addSt_len]; omega) (by rw [addAr_len, addSt_len]; omega) hF1 (kindsW_mem hkw (List.getElem_mem hj')) (by rw [addAr_len, addSt_len]; omega) hwv) (ent_go rfl) ?_
                rintro _ w37 ⟨to2, N2, rfl, hN1, hx38, hB2, hF2, hl2⟩
                replace hN := hN1; clear hN1
                replace hs := hs.trans hx38
                replace hpw := hpw.nstep hx38 hn
                replace hwv := hwv.nstep hx38 hn
                refine WL_val rfl rfl rfl (st_mv (v := .int _ _) rfl) ?_
                refine WL_call rfl rfl rfl (arrow_nil_net n base nb N2 _ hN hn (by have := Fro.size hs; omega) (to2) (N.length) hB2.lt (Few.lt hF2 (by rw [addAr_len, addSt_len] at hl2; omega))) (ent_go rfl) ?_
                rintro _ w39 ⟨rfl, hN1, hx40⟩
                replace hN := hN1; clear hN1
                replace hs := hs.trans hx40
                replace hpw := hpw.nstep hx40 hn
                replace hwv := hwv.nstep hx40 hn
                refine WL_nil ?_
                refine W_region ?_
                refine WL_val rfl rfl rfl (st_add rfl rfl (by omega) (by omega)) ?_
                refine WL_val rfl rfl rfl (st_mv (v := .int _ _) rfl) ?_
                refine WL_nil ?_
                refine rnd_end ?_ (m3 - 1) ?_ ?_
                · repeat (first | exact agree_in rfl rfl (agree_refl _ _) | exact agree_refl _ _ | refine agree_in rfl rfl ?_ | refine agree_upd rfl ?_)
                · omega
                · exact ⟨jw + 1, _, by omega, vec1 rfl, hN, hs, (hW.step hfr hs0 hB2).iff (fun l => LW_take p.ways jw hj' l), hF2.ar hB2.lt, by rw [addAr_len, nstW_take hj']; rw [addAr_len, addSt_len] at hl2; omega⟩
              · have g72 := of_decide_eq_false h72
                refine W_exit ?_
                refine W_seq ?_
                refine W_region ?_
                refine WL_val rfl rfl rfl (st_mv (v := .int _ _) rfl) ?_
                refine WL_val rfl rfl rfl (st_as (v := .int _ _) rfl) ?_
                refine WL_nil ?_
                refine W_ret ?_
                refine qr1 ?_
                have hW' := hW.done
                exact ⟨N.length, N', rfl, hN, hs, hW'.iff (fun l => by rw [Lp_ways hk6, List.take_of_length_le (by omega)]), hF.mono (by omega), by rw [Part.nst_eq]; rw [List.take_of_length_le (by omega)] at hNl; omega⟩
theorem list_ok (M : Nat) : ∀ ps, cntP ps < M → ListOk ps := by
  induction M with
  | zero => intro ps h; omega
  | succ M ih =>
  intro ps hM
  unfold ListOk
  intro n base nb s0 fr k N v w hN hn hbs hv hs0 hfr hfew hk hsz hpsO
  obtain ⟨a, cp, rfl, hpl⟩ := hpsO.form
  have hs : NStep base w w := NStep.refl _ _
  refine fun1 Tryd.func31 rfl (by kernel_rfl) rfl rfl rfl ?_
  refine W_seq ?_
  refine W_region ?_
  refine WL_val rfl rfl rfl (st_as (v := (.int .i64 0)) rfl) ?_
  refine WL_nil ?_
  refine W_seq ?_
  refine W_seq ?_
  refine W_region ?_
  refine WL_val rfl rfl rfl (st_mv (v := .slice _ _ _) rfl) ?_
  refine WL_val rfl rfl rfl (st_len Tryd.underlying22 rfl) ?_
  refine WL_val rfl rfl rfl (st_mv (v := (.int .i64 0)) rfl) ?_
  refine WL_nil ?_
  refine W_block ?_
  refine W_loop [2, 11] [2, 8, 11, 12, 13, 14, 15, 16, 17, 18, 19] (fun m vs w1 => ∃ (j fr' : Nat) (N' : NetL), j + m = ps.length ∧ vs = [.int .i64 (fr' : Int), .int .i64 (j : Int)] ∧ Net w1 n base nb N' ∧ NStep base w w1 ∧ Bui s0 (LP (ps.take j)) N fr N' fr' ∧ Few k N' ∧ N'.length ≤ N.length + nstL (ps.take j)) ?_ ?_
  · exact ⟨ps.length, 0, fr, N, by omega, rfl, hN, hs, (Bui.nil hv hfr).iff (fun l => by rw [List.take_zero, LP_nil]), hfew, by omega⟩
  · intro m vs w1 u hI
    obtain ⟨j, fr', N', hj, rfl, hN, hs, hB, hF, hNl⟩ := hI
    have hps := hpsO.nstep hs hn
    have hBlt := hB.lt
    have hBl := hB.len
    refine W_seq ?_
    refine W_region ?_
    refine WL_val rfl rfl rfl (st_lss rfl rfl) ?_
    refine WL_nil ?_
    refine W_seq ?_
    refine W_cond rfl (fun h12 => ?_) (fun h12 => ?_)
    · have g12 := of_decide_eq_true h12
      refine W_skip ?_
      refine W_seq ?_
      refine W_block ?_
      refine W_seq ?_
      have hj' : j < ps.length := by omega
      obtain ⟨pb, po, rv, wv, hpD, hpa, hpc, hpr, hpw⟩ := hps.at hj'
      have hcnt : ps[j].cnt ≤ cntP ps := by have := cntP_drop ps j; rw [drop_at hj'] at this; simp only [cntP] at this; omega
      have hnt := nst_take hj'
      have hnl := nst_take_le ps (j + 1)
      have hkp := kindsL_mem hk (List.getElem_mem hj')
      obtain ⟨wa, wcp, rfl, hwl⟩ := hpw.form
      obtain ⟨ra, rcp, rfl, hrl⟩ := hpr.form
      refine W_region ?_
      refine WL_val rfl rfl rfl (st_indexAddr Tryd.underlying22 ti33 rfl hpa rfl (by omega)) ?_
      refine WL_val rfl rfl rfl (st_loada ⟨_, Tryd.underlying33, rfl⟩ ti33 rfl hpc rfl) ?_
      refine WL_ef (ef_alloc ti33) rfl rfl rfl ?_
      rintro _ w3 ⟨b2, rfl, hl8, hb8, hx4⟩
      refine WL_su (su_storea ti33 rfl hb8 rfl rfl (Nat.le_of_ble_eq_true rfl) rfl) rfl rfl ?_
      rintro w5 ⟨hnb, hf6⟩
      have hx7 : Ext w1 w5 := hx4.trans_new hf6 (fun _ h => by subst h; exact hl8)
      clear hb8
      have hb8 : Blk _ _ _ [_, _, _, _, _] := hnb
      clear hnb
      replace hs := hs.ext hx7
      replace hN := hN.ext hx7
      replace hpr := hpr.ext hx7
      replace hpw := hpw.ext hx7
      refine WL_nil ?_
      refine W_region ?_
      refine WL_val rfl rfl rfl (st_mv (v := .pointer _) rfl) ?_
      refine WL_val rfl rfl rfl (st_loada ⟨_, Tryd.underlying33, rfl⟩ ti33 rfl hb8.cells rfl) ?_
      refine WL_val rfl rfl rfl (st_mv (v := .int _ _) rfl) ?_
      refine WL_call rfl rfl rfl (part_of M ih ps[j] (by omega) n base nb s0 fr' k N' ra wa rcp wcp _ hN hn (by have := Fro.size hs; omega) hB.val (by omega) hBlt hF hkp (by omega) hpr hpw) (ent_go rfl) ?_
      rintro _ w8 ⟨to2, N2, rfl, hN1, hx9, hB2, hF2, hl2⟩
      replace hN := hN1; clear hN1
      replace hs := hs.trans hx9
      replace hpr := hpr.nstep hx9 hn
      replace hpw := hpw.nstep hx9 hn
      replace hb8 := hb8.nstep hx9 (by decide)
      refine WL_val rfl rfl rfl (st_as (v := .int _ _) rfl) ?_
      refine WL_nil ?_
      refine W_region ?_
      refine WL_val rfl rfl rfl (st_add rfl rfl (by omega) (by omega)) ?_
      refine WL_val rfl rfl rfl (st_mv (v := .int _ _) rfl) ?_
      refine WL_nil ?_
      refine rnd_end ?_ (m - 1) ?_ ?_
      · repeat (first | exact agree_in rfl rfl (agree_refl _ _) | exact agree_refl _ _ | refine agree_in rfl rfl ?_ | refine agree_upd rfl ?_)
      · omega
      · exact ⟨j + 1, to2, N2, by omega, vec2 rfl rfl, hN, hs, (hB.comp hB2).iff (fun l => by rw [List.take_succ_eq_append_getElem hj', LP_append]; exact ⟨fun ⟨x, y, h1, h2, h3⟩ => ⟨x, y, h1, h2, (LP_one _ _).2 h3⟩, fun ⟨x, y, h1, h2, h3⟩ => ⟨x, y, h1, h2, (LP_one _ _).1 h3⟩⟩), hF2, by rw [nst_take hj']; omega⟩
    · have g12 := of_decide_eq_false h12
      refine W_exit ?_
      refine W_seq ?_
      refine W_region ?_
      refine WL_val rfl rfl rfl (st_mv (v := .int _ _) rfl) ?_
      refine WL_val rfl rfl rfl (st_as (v := .int _ _) rfl) ?_
      refine WL_nil ?_
      refine W_ret ?_
      refine qr1 ?_
      exact ⟨fr', N', rfl, hN, hs, by rw [List.take_of_length_le (by omega)] at hB; exact hB, hF, by rw [List.take_of_length_le (by omega)] at hNl; exact hNl⟩
end Go.Proofs.YtndfhicdabdafaaDoor
