/- Walks of state and arrow. -/
import Derived.Test.YtndfhicdabdafaaDoorO
import Derived.Test.YtndfhicdabdafaaDoorC10
import Derived.Test.YtndfhicdabdafaaDoorKh
namespace Go.Proofs.YtndfhicdabdafaaDoor
open Go Go.RowKit

theorem NetAt.addSt {w : World} {n lim base nb g' : Nat} {N : NetL} {gs : Nat → Nat} {sv : Value} {svs : List Value} (h0 : base ≤ nb) (h1 : Blk w nb 64 [sv]) (hl : svs.length = N.length * 1) (h2 : Own w 87 1 sv (N.length + 1) (svs ++ [.slice none 0 0]) g') (h3 : base ≤ g')
    (h4 : ∀ (i : Nat) (ars : List Arw), N[i]? = some ars → ∃ v, svs[i]? = some v ∧ StAt w n lim base v ars (gs i)) (h5 : ∀ i j, i < N.length → j < N.length → arws N i ≠ [] → arws N j ≠ [] → i ≠ j → gs i ≠ gs j) (h6 : N.length < 1099511627) :
    NetAt w n lim base nb (addSt N) (fun i => if i = N.length then base else gs i) := by
  refine ⟨h0, sv, svs ++ [.slice none 0 0], g', h1, by rw [addSt_len]; exact h2, h3, fun i ars ha => ?_, fun i j hi hj => ?_, by rw [addSt_len]; omega⟩
  · unfold Proofs.YtndfhicdabdafaaDoor.addSt at ha
    rcases Nat.lt_or_ge i N.length with h | h
    · rw [List.getElem?_append_left h] at ha
      obtain ⟨v, e1, e2⟩ := h4 i ars ha
      refine ⟨v, by rw [List.getElem?_append_left (by omega)]; exact e1, ?_⟩
      dsimp only
      rw [if_neg (by omega)]
      exact e2
    · rw [List.getElem?_append_right h] at ha
      have hi : i = N.length := by
        rcases Nat.lt_or_ge N.length i with h9 | h9
        · rw [List.getElem?_eq_none (by simp; omega)] at ha; cases ha
        · omega
      subst hi
      rw [Nat.sub_self] at ha
      injection ha with ha
      subst ha
      refine ⟨.slice none 0 0, by rw [List.getElem?_append_right (by omega)]; rw [show N.length - svs.length = 0 by omega]; rfl, ?_⟩
      dsimp only
      rw [if_pos rfl]
      exact ⟨[], ⟨rfl, fun i a h => by cases h⟩, Own.nil _ _ _ _, Nat.le_refl _, fun _ => rfl⟩
  · rw [arws_addSt, arws_addSt]
    intro hi2 hj2 hne
    have h7 : ∀ {q}, arws N q ≠ [] → q < N.length := by
      intro q h
      rcases Nat.lt_or_ge q N.length with h9 | h9
      · exact h9
      · exact absurd (arws_ge h9) h
    have hi3 := h7 hi2
    have hj3 := h7 hj2
    dsimp only
    rw [if_neg (by omega), if_neg (by omega)]
    exact h5 i j hi3 hj3 hi2 hj2 hne
theorem state_ok (n lim base nb : Nat) (N : NetL) (gs : Nat → Nat) (w : World) (hN : NetAt w n lim base nb N gs) (hn : n ≤ base) (hbs : base ≤ w.heap.size) (hlen : N.length < 1099511627) :
    Fun Tryd.prog 30 [.pointer (some ⟨nb, 0, none⟩)] w (fun r w' => r = .int .i64 (N.length : Int) ∧ ∃ gs', NetAt w' n lim base nb (addSt N) gs' ∧ NStep base w w') := by
  obtain ⟨h0, sv, svs, gsb, hnb, hown, hgb, hst, hinj, _⟩ := hN
  obtain ⟨a, cap, rfl, _⟩ := hown.form
  refine fun1 Tryd.func30 rfl (by kernel_rfl) rfl rfl rfl ?_
  refine W_seq ?_
  refine W_region ?_
  refine WL_val rfl rfl rfl (st_as (v := (.int .i64 0)) rfl) ?_
  refine WL_nil ?_
  refine W_seq ?_
  refine W_region ?_
  refine WL_val rfl rfl rfl (st_mv (v := .pointer _) rfl) ?_
  refine WL_val rfl rfl rfl (st_mv (v := .pointer _) rfl) ?_
  refine WL_val rfl rfl rfl (st_nilCheck rfl) ?_
  refine WL_val rfl rfl rfl (st_fieldAddr (off := 0) Tryd.underlying64 rfl rfl ti62 rfl) ?_
  refine WL_val rfl rfl rfl (st_load ⟨_, Tryd.underlying62, rfl⟩ rfl (hnb.cell 0 rfl)) ?_
  refine WL_ef (ef_buildSlice (len := 1) (cs := [.slice none 0 0]) Tryd.underlying62 ti87 (by decide) (by decide) rfl) rfl rfl rfl ?_
  rintro _ w2 ⟨gn, rfl, hgn, hbn, hx2⟩
  have hnb2 := hnb.ext hx2
  have hown2 := hown.ext hx2
  have hst2 : ∀ (i : Nat) (ars : List Arw), N[i]? = some ars → ∃ v, svs[i]? = some v ∧ StAt w2 n lim base v ars (gs i) := fun i ars h => let ⟨v, x, y⟩ := hst i ars h; ⟨v, x, y.off (X := fun _ => True) hx2 (fun _ e => e.elim) trivial trivial ⟨trivial, by decide⟩⟩
  obtain ⟨g1, hown2, hg1, _, ht1⟩ := hown2.tidy hgb (by have := hx2.size; omega)
  refine WL_ef (ef_append (news := [.slice none 0 0]) Tryd.underlying62 Tryd.underlying62 isSl_slice ti87 rfl rfl hown2 rfl (src_slice (by rfl) (.inr ⟨gn, 0, rfl, hbn.cells⟩) (fun h => by cases h)) rfl rfl (by omega) (by omega)) rfl rfl rfl ?_
  rintro v' w3 ⟨g', hown', hf3, hg', _⟩
  have hoff := offT (lim := lim) hg1 hn ht1
  have hnb3 := hnb2.off hf3 hoff (by decide)
  have hst3 : ∀ (i : Nat) (ars : List Arw), N[i]? = some ars → ∃ v, svs[i]? = some v ∧ StAt w3 n lim base v ars (gs i) := fun i ars h => let ⟨v, x, y⟩ := hst2 i ars h; ⟨v, x, y.off hf3 hoff (by decide) (by decide) (by decide)⟩
  have hs3 : NStep base w w3 := (NStep.of_ext hx2).trans (stepT hf3 hg1 (.inr (.inl rfl)) ht1)
  have hg'b : base ≤ g' := by have := hx2.size; rcases hg' with e | e <;> omega
  obtain ⟨a', cap', rfl, hpos⟩ := hown'.form
  refine WL_val rfl rfl rfl (st_nilCheck rfl) ?_
  refine WL_val rfl rfl rfl (st_fieldAddr (off := 0) Tryd.underlying64 rfl rfl ti62 rfl) ?_
  refine WL_su (su_store ti62 rfl hnb3 (Nat.le_of_ble_eq_true rfl) rfl rfl) rfl rfl ?_
  rintro w1 ⟨hnb, hf2⟩
  have hoffn := offT (lim := lim) (T := 64) h0 hn (fun k hk e => by subst e; unfold Blk at hnb3; exact ⟨_, _, hnb3⟩)
  have hnb4 : Blk w1 nb 64 [.slice a' (N.length + 1) cap'] := hnb
  have hown4 := hown'.off hf2 hoffn (by decide)
  have hst4 : ∀ (i : Nat) (ars : List Arw), N[i]? = some ars → ∃ v, svs[i]? = some v ∧ StAt w1 n lim base v ars (gs i) := fun i ars h => let ⟨v, x, y⟩ := hst3 i ars h; ⟨v, x, y.off hf2 hoffn (by decide) (by decide) (by decide)⟩
  have hs4 := hs3.trans (stepT hf2 h0 (.inl rfl) (fun k hk e => by subst e; unfold Blk at hnb3; exact ⟨_, _, hnb3⟩))
  have hnb := hnb4
  refine WL_nil ?_
  refine W_seq ?_
  refine W_region ?_
  refine WL_val rfl rfl rfl (st_mv (v := .pointer _) rfl) ?_
  refine WL_val rfl rfl rfl (st_nilCheck rfl) ?_
  refine WL_val rfl rfl rfl (st_fieldAddr (off := 0) Tryd.underlying64 rfl rfl ti62 rfl) ?_
  refine WL_val rfl rfl rfl (st_load ⟨_, Tryd.underlying62, rfl⟩ rfl (hnb.cell 0 rfl)) ?_
  refine WL_val rfl rfl rfl (st_len Tryd.underlying62 rfl) ?_
  refine WL_val rfl rfl rfl (st_sub rfl rfl (by omega) (by omega)) ?_
  refine WL_val rfl rfl rfl (st_as (v := .int _ _) rfl) ?_
  refine WL_nil ?_
  refine W_ret ?_
  refine qr1 ?_
  exact ⟨vint (by omega), _, NetAt.addSt h0 hnb4 hown.1 hown4 hg'b hst4 hinj hlen, hs4⟩
theorem NetAt.addAr {w : World} {n lim base nb gsb g' fr : Nat} {N : NetL} {gs : Nat → Nat} {sv v' : Value} {svs : List Value} {a : Arw} (h0 : base ≤ nb) (h1 : Blk w nb 64 [sv]) (h2 : Own w 87 1 sv N.length (svs.set fr v') gsb) (h3 : base ≤ gsb) (hfr : fr < N.length) (hsl : svs.length = N.length)
    (h4 : ∀ (i : Nat) (ars : List Arw), i ≠ fr → N[i]? = some ars → ∃ v, svs[i]? = some v ∧ StAt w n lim base v ars (gs i)) (hf : StAt w n lim base v' (arws N fr ++ [a]) g') (h5 : ∀ i j, i < N.length → j < N.length → arws N i ≠ [] → arws N j ≠ [] → i ≠ j → gs i ≠ gs j)
    (hne : ∀ i, i < N.length → i ≠ fr → arws N i ≠ [] → gs i ≠ g') (h6 : N.length ≤ 1099511627) : NetAt w n lim base nb (addAr N fr a) (fun i => if i = fr then g' else gs i) := by
  refine ⟨h0, sv, svs.set fr v', gsb, h1, by rw [addAr_len]; exact h2, h3, fun i ars ha => ?_, fun i j hi hj => ?_, by rw [addAr_len]; exact h6⟩
  · unfold Proofs.YtndfhicdabdafaaDoor.addAr at ha
    rw [List.getElem?_set] at ha
    dsimp only
    by_cases e : fr = i
    · subst e
      rw [if_pos rfl, if_pos hfr] at ha
      injection ha with ha
      subst ha
      exact ⟨v', by rw [List.getElem?_set, if_pos rfl, if_pos (by omega)], by rw [if_pos rfl]; exact hf⟩
    · rw [if_neg e] at ha
      obtain ⟨v, e1, e2⟩ := h4 i ars (fun h => e h.symm) ha
      exact ⟨v, by rw [List.getElem?_set, if_neg e]; exact e1, by rw [if_neg (fun h => e h.symm)]; exact e2⟩
  · rw [addAr_len] at hi hj
    rw [arws_addAr hfr, arws_addAr hfr]
    dsimp only
    intro hi2 hj2 hne2
    by_cases ei : i = fr
    · by_cases ej : j = fr
      · omega
      · rw [if_pos ei, if_neg ej]
        rw [if_neg ej] at hj2
        exact fun e => hne j hj ej hj2 e.symm
    · rw [if_neg ei]
      rw [if_neg ei] at hi2
      by_cases ej : j = fr
      · rw [if_pos ej]; exact hne i hi ei hi2
      · rw [if_neg ej]
        rw [if_neg ej] at hj2
        exact h5 i j hi hj hi2 hj2 hne2
theorem one_fn {a : Int} {b : Bool} {v : Value} (h : isFn v = true) : [Value.int .i64 a, .bool b, v].all one = true := by
  cases v <;> first | rfl | (cases h; done)
theorem arrow_nil (n lim base nb : Nat) (N : NetL) (gs : Nat → Nat) (w : World) (hN : NetAt w n lim base nb N gs) (hn : n ≤ base) (hbs : base ≤ w.heap.size) (fr to : Nat) (hfr : fr < N.length) (tk : Option (UInt8 → Bool)) (hnil : isNilFn Value.nilFunc = tk.isNone)
      (htk : match tk with | none => Value.nilFunc = .nilFunc | some f => TakesAt w n lim Value.nilFunc f) (hlen : (arws N fr).length < 1099511627) :
      Fun Tryd.prog 57 [.pointer (some ⟨nb, 0, none⟩), .int .i64 (fr : Int), .int .i64 (to : Int), Value.nilFunc] w (fun r w' => r = .tuple #[] ∧ ∃ gs', NetAt w' n lim base nb (addAr N fr ⟨to, tk⟩) gs' ∧ NStep base w w') := by
  obtain ⟨h0, sv, svs, gsb, hnb, hown, hgb, hst, hinj, hNl⟩ := hN
  obtain ⟨ars, hars⟩ : ∃ ars, N[fr]? = some ars := ⟨_, List.getElem?_eq_getElem hfr⟩
  obtain ⟨v0, hv0, hst0⟩ := hst fr ars hars
  have har : arws N fr = ars := by unfold arws; rw [List.getD_eq_getElem?_getD, hars]; rfl
  rw [har] at hlen
  obtain ⟨css, hcss, hown0, hgs0, hnil0⟩ := hst0
  obtain ⟨a0, cap0, rfl, hp0⟩ := hown0.form
  obtain ⟨a, cap, rfl, hp⟩ := hown.form
  obtain ⟨rfl, _, hcs⟩ := hown.cells (by omega)
  have hsl : svs.length = N.length := by have := hown.1; omega
  have hcell : ∀ w', Own w' 87 1 (.slice (some ⟨gsb, 0, none⟩) N.length cap) N.length svs gsb → Cells w' gsb (0 + fr * 1) [.slice a0 ars.length cap0] := by
      intro w' h
      have h2 := (h.cells (by omega)).2.2
      have h3 := h2.part fr (ds := [.slice a0 ars.length cap0]) (fun j v hj => by
        rcases j with _ | j
        · injection hj with hj
          rw [← hj]
          exact hv0
        · cases hj)
      rw [Nat.mul_one]
      exact h3
  refine fun0 Tryd.func57 rfl (by kernel_rfl) rfl rfl rfl ?_
  refine W_held 21 20 (fun w9 => w9.cell? ⟨nb, 0, none⟩ = some (.slice (some ⟨gsb, 0, none⟩) N.length cap) ∧ w9.cell? ⟨gsb, 0 + fr * 1, none⟩ = some (.slice a0 ars.length cap0)) mixed rfl ?_
  intro w1 hcur hheap
  have hc1 := hnb.ext hcur
  have hc2 := hown.ext hcur
  have hW : w1.cell? ⟨nb, 0, none⟩ = some (.slice (some ⟨gsb, 0, none⟩) N.length cap) ∧ w1.cell? ⟨gsb, 0 + fr * 1, none⟩ = some (.slice a0 ars.length cap0) := ⟨hc1.cell 0 rfl, hcell _ hc2 0 _ rfl⟩
  refine WH_take 0 rfl rfl rfl rfl (by kernel_rfl) (fun _ _ _ h => np0 h) hW (fun w' hx' => st_mv (v := .pointer _) rfl) ?_
  refine WH_take 1 rfl rfl rfl rfl (by kernel_rfl) (fun _ _ _ h => np0 h) hW (fun w' hx' => st_nilCheck rfl) ?_
  refine WH_take 2 rfl rfl rfl rfl (by kernel_rfl) (fun _ _ _ h => np0 h) hW (fun w' hx' => st_fieldAddr (off := 0) Tryd.underlying64 rfl rfl ti62 rfl) ?_
  refine WH_take 3 rfl rfl rfl rfl (by kernel_rfl) (fun _ _ _ h => np0 h) hW (fun w' hx' => st_load ⟨_, Tryd.underlying62, rfl⟩ rfl hx'.1) ?_
  refine WH_take 4 rfl rfl rfl rfl (by kernel_rfl) (fun _ _ _ h => np0 h) hW (fun w' hx' => st_mv (v := .int _ _) rfl) ?_
  refine WH_take 5 rfl rfl rfl rfl (by kernel_rfl) (fun _ _ _ h => np0 h) hW (fun w' hx' => st_mv (v := .pointer _) rfl) ?_
  refine WH_take 6 rfl rfl rfl rfl (by kernel_rfl) (fun _ _ _ h => np0 h) hW (fun w' hx' => st_nilCheck rfl) ?_
  refine WH_take 7 rfl rfl rfl rfl (by kernel_rfl) (fun _ _ _ h => np0 h) hW (fun w' hx' => st_fieldAddr (off := 0) Tryd.underlying64 rfl rfl ti62 rfl) ?_
  refine WH_take 8 rfl rfl rfl rfl (by kernel_rfl) (fun _ _ _ h => np0 h) hW (fun w' hx' => st_load ⟨_, Tryd.underlying62, rfl⟩ rfl hx'.1) ?_
  refine WH_take 9 rfl rfl rfl rfl (by kernel_rfl) (fun _ _ _ h => np0 h) hW (fun w' hx' => st_mv (v := .int _ _) rfl) ?_
  refine WH_take 10 rfl rfl rfl rfl (by kernel_rfl) (fun _ _ _ h => np0 h) hW (fun w' hx' => st_indexAddr (o := 0) (i := fr) Tryd.underlying62 ti87 rfl rfl rfl hfr) ?_
  refine WH_take 11 rfl rfl rfl rfl (by kernel_rfl) (fun _ _ _ h => np0 h) hW (fun w' hx' => st_load ⟨_, Tryd.underlying87, rfl⟩ rfl hx'.2) ?_
  refine WH_take 12 rfl rfl rfl rfl (by kernel_rfl) (fun _ _ _ h => np0 h) hW (fun w' hx' => st_mv (v := .int _ _) rfl) ?_
  refine WH_take 13 rfl rfl rfl rfl (by kernel_rfl) (fun _ _ _ h => np0 h) hW (fun w' hx' => st_mv (v := Value.nilFunc) rfl) ?_
  refine WH_take 14 rfl rfl rfl rfl (by kernel_rfl) (fun _ _ _ h => np0 h) hW (fun w' hx' => st_eqlfn (v := Value.nilFunc) Tryd.underlying88 ⟨_, _, _, rfl⟩ rfl rfl rfl) ?_
  refine WH_take 15 rfl rfl rfl rfl (by kernel_rfl) (fun _ _ _ h => np0 h) hW (fun w' hx' => st_mv (v := Value.nilFunc) rfl) ?_
  refine WH_take 16 rfl rfl rfl rfl (by kernel_rfl) (fun _ _ _ h => np0 h) hW (fun w' hx' => st_build (pl := [(0, 1), (1, 1), (2, 1)]) (cs := [.int .i64 (to : Int), .bool (isNilFn Value.nilFunc), Value.nilFunc]) ti90 Tryd.underlying90 (fun _ => by kernel_rfl) rfl) ?_
  refine WH_one (i := 17) (by kernel_rfl) ?_
  refine WHi_ef (ef_buildSlice (len := 1) (cs := [.int .i64 (to : Int), .bool (isNilFn Value.nilFunc), Value.nilFunc]) Tryd.underlying87 ti90 (by decide) (by decide) rfl) rfl rfl rfl rfl ?_
  rintro _ w2 ⟨gn, rfl, hgn, hbn, hx2⟩
  have hc := Fro.trans hcur hx2
  have hnb2 := hnb.ext hc
  have hown2 := hown.ext hc
  replace hW : w2.cell? ⟨nb, 0, none⟩ = some (.slice (some ⟨gsb, 0, none⟩) N.length cap) ∧ w2.cell? ⟨gsb, 0 + fr * 1, none⟩ = some (.slice a0 ars.length cap0) := ⟨hnb2.cell 0 rfl, hcell _ hown2 0 _ rfl⟩
  refine ⟨fun _ => hW, ?_⟩
  refine WH_one (i := 18) (by kernel_rfl) ?_
  obtain ⟨g1, hown1, hg1, hgd, ht1⟩ := (hown0.ext hc).tidy hgs0 (by have := hc.size; omega)
  refine WHi_ef (ef_append (v := .slice a0 ars.length cap0) (news := [.int .i64 (to : Int), .bool (isNilFn Value.nilFunc), Value.nilFunc]) Tryd.underlying87 Tryd.underlying87 isSl_slice ti90 rfl rfl hown1 rfl (src_slice (by rfl) (.inr ⟨gn, 0, rfl, hbn.cells⟩) (fun h => by cases h)) rfl (one_fn rfl) (by omega) (by omega)) rfl rfl rfl rfl ?_
  rintro v' w3 ⟨g', hown', hf3, hg', _⟩
  have hoff := offT (lim := lim) hg1 hn ht1
  have hnb3 := hnb2.off hf3 hoff (by decide)
  have hown3 := hown2.off hf3 hoff (by decide)
  replace hW : w3.cell? ⟨nb, 0, none⟩ = some (.slice (some ⟨gsb, 0, none⟩) N.length cap) ∧ w3.cell? ⟨gsb, 0 + fr * 1, none⟩ = some (.slice a0 ars.length cap0) := ⟨hnb3.cell 0 rfl, hcell _ hown3 0 _ rfl⟩
  obtain ⟨a', cap', rfl, hpos⟩ := hown'.form
  refine ⟨fun _ => hW, ?_⟩
  refine WH_take 19 rfl rfl rfl rfl (by kernel_rfl) (fun _ _ _ h => np0 h) hW (fun w' hx' => st_indexAddr (o := 0) (i := fr) Tryd.underlying62 ti87 rfl rfl rfl hfr) ?_
  refine WH_one (i := 20) (by kernel_rfl) ?_
  obtain ⟨capj, junk, hvj, hbk, hjl, hjc⟩ := hown3.2.resolve_left (fun h => by omega)
  refine WHi_su (su_store ti87 rfl hbk (by rw [List.length_append]; omega) rfl rfl) rfl rfl rfl ?_
  rintro w4 ⟨hbk4, hf4⟩
  refine ⟨fun h => absurd rfl h, ?_⟩
  refine WH_done (by kernel_rfl) ?_
  skip
  refine qr0 ?_
  have hbt : ∀ k, k < w3.heap.size → k = gsb → ∃ cs fz, w3.heap[k]? = some (.cells cs 87 fz) := fun k hk e => by subst e; unfold Blk at hbk; exact ⟨_, _, hbk⟩
  have hoff4 := offT (lim := lim) hgb hn hbt
  have hs4 : NStep base w w4 := ((NStep.of_ext hc).trans (stepT hf3 hg1 (.inr (.inr rfl)) ht1)).trans (stepT hf4 hgb (.inr (.inl rfl)) hbt)
  have hnb4 := hnb3.off hf4 hoff4 (by decide)
  have hown4 := hown'.off hf4 hoff4 (by decide)
  have hstates : Own w4 87 1 (.slice (some ⟨gsb, 0, none⟩) N.length cap) N.length (svs.set fr (.slice a' (ars.length + 1) cap')) gsb := by
    refine ⟨by rw [List.length_set]; exact hown3.1, .inr ⟨capj, junk, hvj, ?_, by rw [List.length_append, List.length_set, ← List.length_append]; exact hjl, hjc⟩⟩
    have h9 : Blk w4 gsb 87 ((svs ++ junk).set (0 + fr * 1) (.slice a' (ars.length + 1) cap')) := hbk4
    rw [show 0 + fr * 1 = fr by omega, List.set_append_left _ _ (by omega)] at h9
    exact h9
  have hlt : ∀ (i : Nat) (q : List Arw), N[i]? = some q → q ≠ [] → gs i < w2.heap.size ∧ (i ≠ fr → gs i ≠ g1) := by
    intro i q hq hqn
    obtain ⟨v, e1, css2, e2, e3, e4, e5⟩ := hst i q hq
    obtain ⟨_, _, _, hpp⟩ := e3.form
    have h8 := (hpp (List.length_pos_iff.2 hqn)).2
    have h7 := hc.size
    refine ⟨by omega, fun hi => ?_⟩
    rcases hgd with ⟨hg, hv⟩ | ⟨_, hg⟩
    · rw [hg]
      have hlti : i < N.length := (List.getElem?_eq_some_iff.1 hq).1
      refine hinj i fr hlti hfr ?_ ?_ hi
      · unfold arws; rw [List.getD_eq_getElem?_getD, hq]; exact hqn
      · rw [har]; exact fun e => hv (hnil0 e)
    · omega
  have hothers : ∀ (i : Nat) (q : List Arw), i ≠ fr → N[i]? = some q → ∃ v, svs[i]? = some v ∧ StAt w4 n lim base v q (gs i) := by
    intro i q hi hq
    obtain ⟨v, e1, e2⟩ := hst i q hq
    have e3 := e2.off (X := fun _ => True) hc (fun _ e => e.elim) trivial trivial ⟨trivial, by decide⟩
    have e4 := e3.apart hf3 hoff (by decide) (by decide) (fun hqn e => (hlt i q hq hqn).2 hi e)
    exact ⟨v, e1, e4.off hf4 hoff4 (by decide) (by decide) (by decide)⟩
  have hcss4 : ArwsAt w4 n lim ars css := ((hcss.off (X := fun _ => True) hc (fun _ e => e.elim) trivial trivial).off hf3 hoff (by decide) (by decide)).off hf4 hoff4 (by decide) (by decide)
  have hg'b : base ≤ g' := by have := hc.size; rcases hg' with e | e <;> omega
  refine ⟨rfl, _, NetAt.addAr (g' := g') h0 hnb4 hstates hgb hfr hsl hothers ?_ hinj ?_ hNl, hs4⟩
  · rw [har]
    refine ⟨css ++ [[.int .i64 (to : Int), .bool (isNilFn Value.nilFunc), Value.nilFunc]], ⟨by rw [List.length_append, List.length_append, hcss4.1]; rfl, fun i x hx => ?_⟩, ?_, hg'b, fun h => by simp at h⟩
    · rcases Nat.lt_or_ge i ars.length with h | h
      · rw [List.getElem?_append_left h] at hx
        obtain ⟨cs, h8, h9⟩ := hcss4.2 i x hx
        exact ⟨cs, by rw [List.getElem?_append_left (by rw [hcss4.1]; exact h)]; exact h8, h9⟩
      · rw [List.getElem?_append_right h] at hx
        have hi : i = ars.length := by
          rcases Nat.lt_or_ge ars.length i with h9 | h9
          · rw [List.getElem?_eq_none (by simp; omega)] at hx; cases hx
          · omega
        subst hi
        rw [Nat.sub_self] at hx
        injection hx with hx
        subst hx
        refine ⟨_, by rw [List.getElem?_append_right (by rw [hcss4.1]; exact Nat.le_refl _), hcss4.1, Nat.sub_self]; rfl, Value.nilFunc, by rw [hnil], rfl, ?_⟩
        cases tk with
        | none => exact htk
        | some f => exact ((TakesAt.off (X := fun _ => True) htk hc (fun _ e => e.elim) trivial trivial).off hf3 hoff (by decide) (by decide)).off hf4 hoff4 (by decide) (by decide)
    · rw [List.length_append, List.flatten_append]
      exact hown4
  · intro i hi hne hq
    obtain ⟨q, hq9⟩ : ∃ q, N[i]? = some q := ⟨_, List.getElem?_eq_getElem hi⟩
    have hqn : q ≠ [] := by unfold arws at hq; rw [List.getD_eq_getElem?_getD, hq9] at hq; exact hq
    have h8 := hlt i q hq9 hqn
    have h9 := h8.2 hne
    rcases hg' with e | e <;> omega
theorem arrow_fn (n lim base nb : Nat) (N : NetL) (gs : Nat → Nat) (w : World) (hN : NetAt w n lim base nb N gs) (hn : n ≤ base) (hbs : base ≤ w.heap.size) (fr to : Nat) (hfr : fr < N.length) (tk : Option (UInt8 → Bool)) (ff : _) (bd cp : Array Value) (hnil : isNilFn (Value.func ff bd cp) = tk.isNone)
      (htk : match tk with | none => (Value.func ff bd cp) = .nilFunc | some f => TakesAt w n lim (Value.func ff bd cp) f) (hlen : (arws N fr).length < 1099511627) :
      Fun Tryd.prog 57 [.pointer (some ⟨nb, 0, none⟩), .int .i64 (fr : Int), .int .i64 (to : Int), (Value.func ff bd cp)] w (fun r w' => r = .tuple #[] ∧ ∃ gs', NetAt w' n lim base nb (addAr N fr ⟨to, tk⟩) gs' ∧ NStep base w w') := by
  obtain ⟨h0, sv, svs, gsb, hnb, hown, hgb, hst, hinj, hNl⟩ := hN
  obtain ⟨ars, hars⟩ : ∃ ars, N[fr]? = some ars := ⟨_, List.getElem?_eq_getElem hfr⟩
  obtain ⟨v0, hv0, hst0⟩ := hst fr ars hars
  have har : arws N fr = ars := by unfold arws; rw [List.getD_eq_getElem?_getD, hars]; rfl
  rw [har] at hlen
  obtain ⟨css, hcss, hown0, hgs0, hnil0⟩ := hst0
  obtain ⟨a0, cap0, rfl, hp0⟩ := hown0.form
  obtain ⟨a, cap, rfl, hp⟩ := hown.form
  obtain ⟨rfl, _, hcs⟩ := hown.cells (by omega)
  have hsl : svs.length = N.length := by have := hown.1; omega
  have hcell : ∀ w', Own w' 87 1 (.slice (some ⟨gsb, 0, none⟩) N.length cap) N.length svs gsb → Cells w' gsb (0 + fr * 1) [.slice a0 ars.length cap0] := by
      intro w' h
      have h2 := (h.cells (by omega)).2.2
      have h3 := h2.part fr (ds := [.slice a0 ars.length cap0]) (fun j v hj => by
        rcases j with _ | j
        · injection hj with hj
          rw [← hj]
          exact hv0
        · cases hj)
      rw [Nat.mul_one]
      exact h3
  refine fun0 Tryd.func57 rfl (by kernel_rfl) rfl rfl rfl ?_
  refine W_held 21 20 (fun w9 => w9.cell? ⟨nb, 0, none⟩ = some (.slice (some ⟨gsb, 0, none⟩) N.length cap) ∧ w9.cell? ⟨gsb, 0 + fr * 1, none⟩ = some (.slice a0 ars.length cap0)) mixed rfl ?_
  intro w1 hcur hheap
  have hc1 := hnb.ext hcur
  have hc2 := hown.ext hcur
  have hW : w1.cell? ⟨nb, 0, none⟩ = some (.slice (some ⟨gsb, 0, none⟩) N.length cap) ∧ w1.cell? ⟨gsb, 0 + fr * 1, none⟩ = some (.slice a0 ars.length cap0) := ⟨hc1.cell 0 rfl, hcell _ hc2 0 _ rfl⟩
  refine WH_take 0 rfl rfl rfl rfl (by kernel_rfl) (fun _ _ _ h => np0 h) hW (fun w' hx' => st_mv (v := .pointer _) rfl) ?_
  refine WH_take 1 rfl rfl rfl rfl (by kernel_rfl) (fun _ _ _ h => np0 h) hW (fun w' hx' => st_nilCheck rfl) ?_
  refine WH_take 2 rfl rfl rfl rfl (by kernel_rfl) (fun _ _ _ h => np0 h) hW (fun w' hx' => st_fieldAddr (off := 0) Tryd.underlying64 rfl rfl ti62 rfl) ?_
  refine WH_take 3 rfl rfl rfl rfl (by kernel_rfl) (fun _ _ _ h => np0 h) hW (fun w' hx' => st_load ⟨_, Tryd.underlying62, rfl⟩ rfl hx'.1) ?_
  refine WH_take 4 rfl rfl rfl rfl (by kernel_rfl) (fun _ _ _ h => np0 h) hW (fun w' hx' => st_mv (v := .int _ _) rfl) ?_
  refine WH_take 5 rfl rfl rfl rfl (by kernel_rfl) (fun _ _ _ h => np0 h) hW (fun w' hx' => st_mv (v := .pointer _) rfl) ?_
  refine WH_take 6 rfl rfl rfl rfl (by kernel_rfl) (fun _ _ _ h => np0 h) hW (fun w' hx' => st_nilCheck rfl) ?_
  refine WH_take 7 rfl rfl rfl rfl (by kernel_rfl) (fun _ _ _ h => np0 h) hW (fun w' hx' => st_fieldAddr (off := 0) Tryd.underlying64 rfl rfl ti62 rfl) ?_
  refine WH_take 8 rfl rfl rfl rfl (by kernel_rfl) (fun _ _ _ h => np0 h) hW (fun w' hx' => st_load ⟨_, Tryd.underlying62, rfl⟩ rfl hx'.1) ?_
  refine WH_take 9 rfl rfl rfl rfl (by kernel_rfl) (fun _ _ _ h => np0 h) hW (fun w' hx' => st_mv (v := .int _ _) rfl) ?_
  refine WH_take 10 rfl rfl rfl rfl (by kernel_rfl) (fun _ _ _ h => np0 h) hW (fun w' hx' => st_indexAddr (o := 0) (i := fr) Tryd.underlying62 ti87 rfl rfl rfl hfr) ?_
  refine WH_take 11 rfl rfl rfl rfl (by kernel_rfl) (fun _ _ _ h => np0 h) hW (fun w' hx' => st_load ⟨_, Tryd.underlying87, rfl⟩ rfl hx'.2) ?_
  refine WH_take 12 rfl rfl rfl rfl (by kernel_rfl) (fun _ _ _ h => np0 h) hW (fun w' hx' => st_mv (v := .int _ _) rfl) ?_
  refine WH_take 13 rfl rfl rfl rfl (by kernel_rfl) (fun _ _ _ h => np0 h) hW (fun w' hx' => st_mv (v := (Value.func ff bd cp)) rfl) ?_
  refine WH_take 14 rfl rfl rfl rfl (by kernel_rfl) (fun _ _ _ h => np0 h) hW (fun w' hx' => st_eqlfn (v := (Value.func ff bd cp)) Tryd.underlying88 ⟨_, _, _, rfl⟩ rfl rfl rfl) ?_
  refine WH_take 15 rfl rfl rfl rfl (by kernel_rfl) (fun _ _ _ h => np0 h) hW (fun w' hx' => st_mv (v := (Value.func ff bd cp)) rfl) ?_
  refine WH_take 16 rfl rfl rfl rfl (by kernel_rfl) (fun _ _ _ h => np0 h) hW (fun w' hx' => st_build (pl := [(0, 1), (1, 1), (2, 1)]) (cs := [.int .i64 (to : Int), .bool (isNilFn (Value.func ff bd cp)), (Value.func ff bd cp)]) ti90 Tryd.underlying90 (fun _ => by kernel_rfl) rfl) ?_
  refine WH_one (i := 17) (by kernel_rfl) ?_
  refine WHi_ef (ef_buildSlice (len := 1) (cs := [.int .i64 (to : Int), .bool (isNilFn (Value.func ff bd cp)), (Value.func ff bd cp)]) Tryd.underlying87 ti90 (by decide) (by decide) rfl) rfl rfl rfl rfl ?_
  rintro _ w2 ⟨gn, rfl, hgn, hbn, hx2⟩
  have hc := Fro.trans hcur hx2
  have hnb2 := hnb.ext hc
  have hown2 := hown.ext hc
  replace hW : w2.cell? ⟨nb, 0, none⟩ = some (.slice (some ⟨gsb, 0, none⟩) N.length cap) ∧ w2.cell? ⟨gsb, 0 + fr * 1, none⟩ = some (.slice a0 ars.length cap0) := ⟨hnb2.cell 0 rfl, hcell _ hown2 0 _ rfl⟩
  refine ⟨fun _ => hW, ?_⟩
  refine WH_one (i := 18) (by kernel_rfl) ?_
  obtain ⟨g1, hown1, hg1, hgd, ht1⟩ := (hown0.ext hc).tidy hgs0 (by have := hc.size; omega)
  refine WHi_ef (ef_append (v := .slice a0 ars.length cap0) (news := [.int .i64 (to : Int), .bool (isNilFn (Value.func ff bd cp)), (Value.func ff bd cp)]) Tryd.underlying87 Tryd.underlying87 isSl_slice ti90 rfl rfl hown1 rfl (src_slice (by rfl) (.inr ⟨gn, 0, rfl, hbn.cells⟩) (fun h => by cases h)) rfl (one_fn rfl) (by omega) (by omega)) rfl rfl rfl rfl ?_
  rintro v' w3 ⟨g', hown', hf3, hg', _⟩
  have hoff := offT (lim := lim) hg1 hn ht1
  have hnb3 := hnb2.off hf3 hoff (by decide)
  have hown3 := hown2.off hf3 hoff (by decide)
  replace hW : w3.cell? ⟨nb, 0, none⟩ = some (.slice (some ⟨gsb, 0, none⟩) N.length cap) ∧ w3.cell? ⟨gsb, 0 + fr * 1, none⟩ = some (.slice a0 ars.length cap0) := ⟨hnb3.cell 0 rfl, hcell _ hown3 0 _ rfl⟩
  obtain ⟨a', cap', rfl, hpos⟩ := hown'.form
  refine ⟨fun _ => hW, ?_⟩
  refine WH_take 19 rfl rfl rfl rfl (by kernel_rfl) (fun _ _ _ h => np0 h) hW (fun w' hx' => st_indexAddr (o := 0) (i := fr) Tryd.underlying62 ti87 rfl rfl rfl hfr) ?_
  refine WH_one (i := 20) (by kernel_rfl) ?_
  obtain ⟨capj, junk, hvj, hbk, hjl, hjc⟩ := hown3.2.resolve_left (fun h => by omega)
  refine WHi_su (su_store ti87 rfl hbk (by rw [List.length_append]; omega) rfl rfl) rfl rfl rfl ?_
  rintro w4 ⟨hbk4, hf4⟩
  refine ⟨fun h => absurd rfl h, ?_⟩
  refine WH_done (by kernel_rfl) ?_
  skip
  refine qr0 ?_
  have hbt : ∀ k, k < w3.heap.size → k = gsb → ∃ cs fz, w3.heap[k]? = some (.cells cs 87 fz) := fun k hk e => by subst e; unfold Blk at hbk; exact ⟨_, _, hbk⟩
  have hoff4 := offT (lim := lim) hgb hn hbt
  have hs4 : NStep base w w4 := ((NStep.of_ext hc).trans (stepT hf3 hg1 (.inr (.inr rfl)) ht1)).trans (stepT hf4 hgb (.inr (.inl rfl)) hbt)
  have hnb4 := hnb3.off hf4 hoff4 (by decide)
  have hown4 := hown'.off hf4 hoff4 (by decide)
  have hstates : Own w4 87 1 (.slice (some ⟨gsb, 0, none⟩) N.length cap) N.length (svs.set fr (.slice a' (ars.length + 1) cap')) gsb := by
    refine ⟨by rw [List.length_set]; exact hown3.1, .inr ⟨capj, junk, hvj, ?_, by rw [List.length_append, List.length_set, ← List.length_append]; exact hjl, hjc⟩⟩
    have h9 : Blk w4 gsb 87 ((svs ++ junk).set (0 + fr * 1) (.slice a' (ars.length + 1) cap')) := hbk4
    rw [show 0 + fr * 1 = fr by omega, List.set_append_left _ _ (by omega)] at h9
    exact h9
  have hlt : ∀ (i : Nat) (q : List Arw), N[i]? = some q → q ≠ [] → gs i < w2.heap.size ∧ (i ≠ fr → gs i ≠ g1) := by
    intro i q hq hqn
    obtain ⟨v, e1, css2, e2, e3, e4, e5⟩ := hst i q hq
    obtain ⟨_, _, _, hpp⟩ := e3.form
    have h8 := (hpp (List.length_pos_iff.2 hqn)).2
    have h7 := hc.size
    refine ⟨by omega, fun hi => ?_⟩
    rcases hgd with ⟨hg, hv⟩ | ⟨_, hg⟩
    · rw [hg]
      have hlti : i < N.length := (List.getElem?_eq_some_iff.1 hq).1
      refine hinj i fr hlti hfr ?_ ?_ hi
      · unfold arws; rw [List.getD_eq_getElem?_getD, hq]; exact hqn
      · rw [har]; exact fun e => hv (hnil0 e)
    · omega
  have hothers : ∀ (i : Nat) (q : List Arw), i ≠ fr → N[i]? = some q → ∃ v, svs[i]? = some v ∧ StAt w4 n lim base v q (gs i) := by
    intro i q hi hq
    obtain ⟨v, e1, e2⟩ := hst i q hq
    have e3 := e2.off (X := fun _ => True) hc (fun _ e => e.elim) trivial trivial ⟨trivial, by decide⟩
    have e4 := e3.apart hf3 hoff (by decide) (by decide) (fun hqn e => (hlt i q hq hqn).2 hi e)
    exact ⟨v, e1, e4.off hf4 hoff4 (by decide) (by decide) (by decide)⟩
  have hcss4 : ArwsAt w4 n lim ars css := ((hcss.off (X := fun _ => True) hc (fun _ e => e.elim) trivial trivial).off hf3 hoff (by decide) (by decide)).off hf4 hoff4 (by decide) (by decide)
  have hg'b : base ≤ g' := by have := hc.size; rcases hg' with e | e <;> omega
  refine ⟨rfl, _, NetAt.addAr (g' := g') h0 hnb4 hstates hgb hfr hsl hothers ?_ hinj ?_ hNl, hs4⟩
  · rw [har]
    refine ⟨css ++ [[.int .i64 (to : Int), .bool (isNilFn (Value.func ff bd cp)), (Value.func ff bd cp)]], ⟨by rw [List.length_append, List.length_append, hcss4.1]; rfl, fun i x hx => ?_⟩, ?_, hg'b, fun h => by simp at h⟩
    · rcases Nat.lt_or_ge i ars.length with h | h
      · rw [List.getElem?_append_left h] at hx
        obtain ⟨cs, h8, h9⟩ := hcss4.2 i x hx
        exact ⟨cs, by rw [List.getElem?_append_left (by rw [hcss4.1]; exact h)]; exact h8, h9⟩
      · rw [List.getElem?_append_right h] at hx
        have hi : i = ars.length := by
          rcases Nat.lt_or_ge ars.length i with h9 | h9
          · rw [List.getElem?_eq_none (by simp; omega)] at hx; cases hx
          · omega
        subst hi
        rw [Nat.sub_self] at hx
        injection hx with hx
        subst hx
        refine ⟨_, by rw [List.getElem?_append_right (by rw [hcss4.1]; exact Nat.le_refl _), hcss4.1, Nat.sub_self]; rfl, (Value.func ff bd cp), by rw [hnil], rfl, ?_⟩
        cases tk with
        | none => exact htk
        | some f => exact ((TakesAt.off (X := fun _ => True) htk hc (fun _ e => e.elim) trivial trivial).off hf3 hoff (by decide) (by decide)).off hf4 hoff4 (by decide) (by decide)
    · rw [List.length_append, List.flatten_append]
      exact hown4
  · intro i hi hne hq
    obtain ⟨q, hq9⟩ : ∃ q, N[i]? = some q := ⟨_, List.getElem?_eq_getElem hi⟩
    have hqn : q ≠ [] := by unfold arws at hq; rw [List.getD_eq_getElem?_getD, hq9] at hq; exact hq
    have h8 := hlt i q hq9 hqn
    have h9 := h8.2 hne
    rcases hg' with e | e <;> omega
theorem offB {X : TypeId → Prop} {w : World} {b n lim : Nat} {T : TypeId} {cs : List Value} (hb : Blk w b T cs) (hT : BoxT T) (hl : lim ≤ b) (hn : n ≤ lim) : ∀ k, k = b → OffX X n lim w k := by
  rintro k rfl
  refine ⟨by omega, fun cs T' fz h => .inr ⟨hl, ?_⟩⟩
  unfold Blk at hb
  rw [hb] at h
  injection h with h
  injection h with _ h
  rw [← h]
  exact hT
theorem state_net (n base nb : Nat) (N : NetL) (w : World) (hN : Net w n base nb N) (hn : n ≤ base) (hbs : base ≤ w.heap.size) (hlen : N.length < 1099511627) :
    Fun Tryd.prog 30 [.pointer (some ⟨nb, 0, none⟩)] w (fun r w' => r = .int .i64 (N.length : Int) ∧ Net w' n base nb (Proofs.YtndfhicdabdafaaDoor.addSt N) ∧ NStep base w w') := by
  obtain ⟨gs, hN⟩ := hN
  exact (state_ok n w.heap.size base nb N gs w hN hn hbs hlen).mono (by rintro _ w' ⟨rfl, gs', h1, h2⟩; exact ⟨rfl, h1.net (Fro.size h2), h2⟩)
theorem arrow_nil_net (n base nb : Nat) (N : NetL) (w : World) (hN : Net w n base nb N) (hn : n ≤ base) (hbs : base ≤ w.heap.size) (fr to : Nat) (hfr : fr < N.length) (hlen : (arws N fr).length < 1099511627) :
    Fun Tryd.prog 57 [.pointer (some ⟨nb, 0, none⟩), .int .i64 (fr : Int), .int .i64 (to : Int), .nilFunc] w (fun r w' => r = .tuple #[] ∧ Net w' n base nb (Proofs.YtndfhicdabdafaaDoor.addAr N fr ⟨to, none⟩) ∧ NStep base w w') := by
  obtain ⟨gs, hN⟩ := hN
  exact (arrow_nil n w.heap.size base nb N gs w hN hn hbs fr to hfr none rfl rfl hlen).mono (by rintro _ w' ⟨rfl, gs', h1, h2⟩; exact ⟨rfl, h1.net (Fro.size h2), h2⟩)
theorem arrow_fn_net (n base nb : Nat) (N : NetL) (w : World) (hN : Net w n base nb N) (hn : n ≤ base) (hbs : base ≤ w.heap.size) (fr to : Nat) (hfr : fr < N.length) (f : UInt8 → Bool) (ff : _) (bd cp : Array Value)
      (htk : TakesAt w n w.heap.size (.func ff bd cp) f) (hlen : (arws N fr).length < 1099511627) :
    Fun Tryd.prog 57 [.pointer (some ⟨nb, 0, none⟩), .int .i64 (fr : Int), .int .i64 (to : Int), .func ff bd cp] w (fun r w' => r = .tuple #[] ∧ Net w' n base nb (Proofs.YtndfhicdabdafaaDoor.addAr N fr ⟨to, some f⟩) ∧ NStep base w w') := by
  obtain ⟨gs, hN⟩ := hN
  exact (arrow_fn n w.heap.size base nb N gs w hN hn hbs fr to hfr (some f) ff bd cp rfl htk hlen).mono (by rintro _ w' ⟨rfl, gs', h1, h2⟩; exact ⟨rfl, h1.net (Fro.size h2), h2⟩)
end Go.Proofs.YtndfhicdabdafaaDoor
