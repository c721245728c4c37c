/- Walk of printParts. -/
import Derived.Test.YtndfhicdabdafaaDoorC6
namespace Go.Proofs.YtndfhicdabdafaaDoor
open Go Go.RowKit

theorem Part.print_eq (within : Bool) (p : Part) : p.print within = if p.kind = 1 then escL (someL within) (byts p.text) else if p.kind = 2 then [63] else if p.kind = 3 then [42] else if p.kind = 4 then [42, 42]
    else if p.kind = 5 then setL p else if p.kind = 6 then printW true p.ways ++ [125] else [] := by
  cases p; simp only [Part.print]; rfl
theorem printL_append (within : Bool) : ∀ a b : List Part, printL within (a ++ b) = printL within a ++ printL within b
  | [], b => by simp [printL]
  | p :: a, b => by
    have h := printL_append within a b
    simp [printL, h]
theorem printL_take (within : Bool) {l : List Part} {k : Nat} (h : k < l.length) : printL within (l.take (k + 1)) = printL within (l.take k) ++ l[k].print within := by
  rw [List.take_succ_eq_append_getElem h, printL_append]
  simp [printL]
theorem printL_take_le (within : Bool) (l : List Part) (k : Nat) : (printL within (l.take k)).length ≤ (printL within l).length := by
  have e := printL_append within (l.take k) (l.drop k)
  rw [List.take_append_drop] at e
  rw [e, List.length_append]; omega
theorem printW_take_le : ∀ (first : Bool) (l : List (List Part)) (k : Nat), (printW first (l.take k)).length ≤ (printW first l).length
  | _, [], k => by simp
  | first, x :: l, 0 => by simp [printW]
  | first, x :: l, k + 1 => by
    have h := printW_take_le false l k
    simp [printW]; exact h
theorem printW_take : ∀ (first : Bool) {l : List (List Part)} {k : Nat} (h : k < l.length), printW first (l.take (k + 1)) = printW first (l.take k) ++ (if first = true ∧ k = 0 then 123 else 44) :: printL true l[k]
  | first, x :: l, 0, h => by cases first <;> simp [printW]
  | first, x :: l, k + 1, h => by
    have e := printW_take false (l := l) (k := k) (by simpa using h)
    simp only [List.take_succ_cons, printW, List.getElem_cons_succ]
    rw [e]
    simp
theorem printParts_ok (N : Nat) : ∀ (ps : List Part), cntP ps < N → ∀ (bb g : Nat) (bs : List UInt8) (within : Bool) (v : Value) (w : World), Bld w bb g bs → PartsAt (· < bb) w v ps → bs.length + (printL within ps).length ≤ 1099511627776 →
    Fun Tryd.prog 25 [.pointer (some ⟨bb, 0, none⟩), v, .bool within] w (fun r w' => r = .tuple #[] ∧ ∃ g', Bld w' bb g' (bs ++ printL within ps) ∧ BStep bb g g' w w') := by
  induction N with
  | zero => intro ps h; omega
  | succ N ih =>
  intro ps hN bb g bs within v w hB hps hl
  obtain ⟨a, cp, rfl, hpl⟩ := hps.form
  have hs := BStep.refl bb g w
  refine fun0 Tryd.func25 rfl (by kernel_rfl) rfl rfl rfl ?_
  refine W_seq ?_
  refine W_region ?_
  refine WL_val rfl rfl rfl (st_as (v := (.string ⟨#[92, 42, 63, 91, 93, 123, 125]⟩)) rfl) ?_
  refine WL_nil ?_
  refine W_seq ?_
  refine W_seq ?_
  refine W_region ?_
  refine WL_val rfl rfl rfl (st_mv (v := .bool _) rfl) ?_
  refine WL_nil ?_
  refine W_cond rfl (fun h11 => ?_) (fun h11 => ?_)
  · have g11 := h11
    refine W_region ?_
    refine WL_val rfl rfl rfl (st_mv (v := .string _) rfl) ?_
    refine WL_val rfl rfl rfl (st_adds rfl rfl (by decide)) ?_
    refine WL_val rfl rfl rfl (st_as (v := .string _) rfl) ?_
    refine WL_nil ?_
    refine W_seq ?_
    have hso : byts ((⟨#[92, 42, 63, 91, 93, 123, 125]⟩ : ByteArray) ++ ⟨#[44]⟩) = someL within := by rw [show within = true from h11]; rfl
    refine W_region ?_
    refine WL_val rfl rfl rfl (st_mv (v := .slice _ _ _) rfl) ?_
    refine WL_val rfl rfl rfl (st_len Tryd.underlying22 rfl) ?_
    refine WL_val rfl rfl rfl (st_mv (v := (.int .i64 0)) rfl) ?_
    refine WL_nil ?_
    refine W_block ?_
    refine W_loop [16] [8, 9, 10, 16, 17, 18, 19, 20, 21, 22, 23, 24, 25, 26, 27, 28, 29, 30, 31, 32, 33, 34, 35, 36, 37, 38, 39, 40, 41, 42, 43, 44, 45, 46, 47, 48, 49, 50, 51, 52, 53, 54, 55, 56, 57, 58, 59, 60, 61, 62, 63, 64, 65, 66, 67] (fun m vs w1 => ∃ k g1 : Nat, k + m = ps.length ∧ vs = [.int .i64 (k : Int)] ∧ Bld w1 bb g1 (bs ++ printL within (ps.take k)) ∧ BStep bb g g1 w w1) ?_ ?_
    · exact ⟨ps.length, 0, _, by omega, rfl, by simpa [printL] using hB, BStep.refl _ _ _⟩
    · intro m vs w1 u hI
      obtain ⟨k, gk, hk, rfl, hB2, hst⟩ := hI
      have hs := hs.trans hst
      have hps := hps.step hB.gt hst
      clear hB
      have hB := hB2; clear hB2
      refine W_seq ?_
      refine W_region ?_
      refine WL_val rfl rfl rfl (st_lss rfl rfl) ?_
      refine WL_nil ?_
      refine W_seq ?_
      refine W_cond rfl (fun h17 => ?_) (fun h17 => ?_)
      · have g17 := of_decide_eq_true h17
        refine W_skip ?_
        refine W_seq ?_
        refine W_block ?_
        refine W_seq ?_
        have hk' : k < ps.length := by omega
        obtain ⟨pb, po, rv, wv, hpD, hpa, hpc, hpr, hpw⟩ := hps.at hk'
        have hlk := printL_take_le within ps (k + 1)
        rw [printL_take within hk', List.length_append] at hlk
        have hrt := printL_take within hk'
        have hcnt : ps[k].cnt ≤ cntP ps := by have := cntP_drop ps k; rw [drop_at hk'] at this; simp only [cntP] at this; omega
        generalize ps[k] = p at hpc hpr hpw hlk hrt hcnt
        obtain ⟨wa, wcp, rfl, hwl⟩ := hpw.form
        obtain ⟨ra, rcp, rfl, hrl⟩ := hpr.form
        refine W_region ?_
        refine WL_val rfl rfl rfl (st_indexAddr Tryd.underlying22 ti33 rfl hpa rfl (by omega)) ?_
        refine WL_val rfl rfl rfl (st_loada ⟨_, Tryd.underlying33, rfl⟩ ti33 rfl hpc rfl) ?_
        refine WL_ef (ef_alloc ti33) rfl rfl rfl ?_
        rintro _ w3 ⟨b2, rfl, hl8, hb8, hx4⟩
        refine WL_su (su_storea ti33 rfl hb8 rfl rfl (Nat.le_of_ble_eq_true rfl) rfl) rfl rfl ?_
        rintro w5 ⟨hnb, hf6⟩
        have hx7 : Ext w1 w5 := hx4.trans_new hf6 (fun _ h => by subst h; exact hl8)
        clear hb8
        have hb8 : Blk _ _ _ [_, _, _, _, _] := hnb
        clear hnb
        replace hs := hs.ext hx7
        replace hst := hst.ext hx7
        replace hps := hps.ext hx7
        replace hpr := hpr.ext hx7
        replace hpw := hpw.ext hx7
        replace hB := hB.ext hx7
        obtain ⟨g8, hB10, hst9, hb8⟩ := hB.apt hb8 (by decide) (by decide)
        replace hs := hs.trans hst9
        replace hst := hst.trans hst9
        replace hps := hps.step hB.gt hst9
        replace hpr := hpr.step hB.gt hst9
        replace hpw := hpw.step hB.gt hst9
        replace hB := hB10; clear hB10
        refine WL_nil ?_
        refine W_seq ?_
        refine W_region ?_
        refine WL_val rfl rfl rfl (st_fieldAddr (off := 0) Tryd.underlying33 rfl rfl ti3 rfl) ?_
        refine WL_val rfl rfl rfl (st_load ⟨_, Tryd.underlying3, rfl⟩ rfl (hb8.cell 0 rfl)) ?_
        refine WL_nil ?_
        refine W_block ?_
        refine W_seq ?_
        refine W_region ?_
        refine WL_val rfl rfl rfl (st_eql rfl rfl) ?_
        refine WL_val rfl rfl rfl (st_as (v := .bool _) rfl) ?_
        refine WL_nil ?_
        refine W_cond rfl (fun h22 => ?_) (fun h22 => ?_)
        · have g22 := of_decide_eq_true h22
          have hpp : p.print within = escL (someL within) (byts p.text) := by rw [p.print_eq]; simp [g22]
          rw [hpp] at hlk
          refine W_region ?_
          refine WL_val rfl rfl rfl (st_mv (v := .pointer _) rfl) ?_
          refine WL_val rfl rfl rfl (st_fieldAddr (off := 1) Tryd.underlying33 rfl rfl ti9 rfl) ?_
          refine WL_val rfl rfl rfl (st_load ⟨_, Tryd.underlying9, rfl⟩ rfl (hb8.cell 1 rfl)) ?_
          refine WL_val rfl rfl rfl (st_mv (v := .string _) rfl) ?_
          refine WL_call rfl rfl rfl (escape_ok bb _ _ p.text ((⟨#[92, 42, 63, 91, 93, 123, 125]⟩ : ByteArray) ++ ⟨#[44]⟩) _ hB (by rw [hso]; simp only [List.length_append]; omega)) (ent_go rfl) ?_
          rintro _ w11 ⟨rfl, g12, hB13, hst14⟩
          replace hs := hs.trans hst14
          replace hst := hst.trans hst14
          replace hps := hps.step hB.gt hst14
          replace hpr := hpr.step hB.gt hst14
          replace hpw := hpw.step hB.gt hst14
          replace hb8 := hb8.step hst14
          replace hB := hB13; clear hB13
          refine WL_nil ?_
          rw [hso] at hB
          refine W_region ?_
          refine WL_val rfl rfl rfl (st_add rfl rfl (by omega) (by omega)) ?_
          refine WL_val rfl rfl rfl (st_mv (v := .int _ _) rfl) ?_
          refine WL_nil ?_
          refine rnd_end ?_ (m - 1) ?_ ?_
          · repeat (first | exact agree_in rfl rfl (agree_refl _ _) | exact agree_refl _ _ | refine agree_in rfl rfl ?_ | refine agree_upd rfl ?_)
          · omega
          · refine ⟨k + 1, _, by omega, vec1 rfl, ?_, hst⟩
            rw [hrt, hpp]
            simpa using hB
        · have g22 := of_decide_eq_false h22
          refine W_seq ?_
          refine W_region ?_
          refine WL_val rfl rfl rfl (st_eql rfl rfl) ?_
          refine WL_val rfl rfl rfl (st_as (v := .bool _) rfl) ?_
          refine WL_nil ?_
          refine W_cond rfl (fun h29 => ?_) (fun h29 => ?_)
          · have g29 := of_decide_eq_true h29
            have hpp : p.print within = [63] := by rw [p.print_eq]; simp [g29]
            rw [hpp] at hlk
            refine W_region ?_
            refine WL_val rfl rfl rfl (st_mv (v := .pointer _) rfl) ?_
            refine WL_call rfl rfl rfl (writeByte_ok bb _ _ 63 _ hB (by simp only [List.length_append, List.length_cons, List.length_nil] at *; omega)) (ent_go rfl) ?_
            rintro _ w15 ⟨rfl, g16, hB17, hst18⟩
            replace hs := hs.trans hst18
            replace hst := hst.trans hst18
            replace hps := hps.step hB.gt hst18
            replace hpr := hpr.step hB.gt hst18
            replace hpw := hpw.step hB.gt hst18
            replace hb8 := hb8.step hst18
            replace hB := hB17; clear hB17
            refine WL_nil ?_
            refine W_region ?_
            refine WL_val rfl rfl rfl (st_add rfl rfl (by omega) (by omega)) ?_
            refine WL_val rfl rfl rfl (st_mv (v := .int _ _) rfl) ?_
            refine WL_nil ?_
            refine rnd_end ?_ (m - 1) ?_ ?_
            · repeat (first | exact agree_in rfl rfl (agree_refl _ _) | exact agree_refl _ _ | refine agree_in rfl rfl ?_ | refine agree_upd rfl ?_)
            · omega
            · refine ⟨k + 1, _, by omega, vec1 rfl, ?_, hst⟩
              rw [hrt, hpp]
              simpa using hB
          · have g29 := of_decide_eq_false h29
            refine W_seq ?_
            refine W_region ?_
            refine WL_val rfl rfl rfl (st_eql rfl rfl) ?_
            refine WL_val rfl rfl rfl (st_as (v := .bool _) rfl) ?_
            refine WL_nil ?_
            refine W_cond rfl (fun h33 => ?_) (fun h33 => ?_)
            · have g33 := of_decide_eq_true h33
              have hpp : p.print within = [42] := by rw [p.print_eq]; simp [g33]
              rw [hpp] at hlk
              refine W_region ?_
              refine WL_val rfl rfl rfl (st_mv (v := .pointer _) rfl) ?_
              refine WL_call rfl rfl rfl (writeByte_ok bb _ _ 42 _ hB (by simp only [List.length_append, List.length_cons, List.length_nil] at *; omega)) (ent_go rfl) ?_
              rintro _ w19 ⟨rfl, g20, hB21, hst22⟩
              replace hs := hs.trans hst22
              replace hst := hst.trans hst22
              replace hps := hps.step hB.gt hst22
              replace hpr := hpr.step hB.gt hst22
              replace hpw := hpw.step hB.gt hst22
              replace hb8 := hb8.step hst22
              replace hB := hB21; clear hB21
              refine WL_nil ?_
              refine W_region ?_
              refine WL_val rfl rfl rfl (st_add rfl rfl (by omega) (by omega)) ?_
              refine WL_val rfl rfl rfl (st_mv (v := .int _ _) rfl) ?_
              refine WL_nil ?_
              refine rnd_end ?_ (m - 1) ?_ ?_
              · repeat (first | exact agree_in rfl rfl (agree_refl _ _) | exact agree_refl _ _ | refine agree_in rfl rfl ?_ | refine agree_upd rfl ?_)
              · omega
              · refine ⟨k + 1, _, by omega, vec1 rfl, ?_, hst⟩
                rw [hrt, hpp]
                simpa using hB
            · have g33 := of_decide_eq_false h33
              refine W_seq ?_
              refine W_region ?_
              refine WL_val rfl rfl rfl (st_eql rfl rfl) ?_
              refine WL_val rfl rfl rfl (st_as (v := .bool _) rfl) ?_
              refine WL_nil ?_
              refine W_cond rfl (fun h37 => ?_) (fun h37 => ?_)
              · have g37 := of_decide_eq_true h37
                have hpp : p.print within = [42, 42] := by rw [p.print_eq]; simp [g37]
                rw [hpp] at hlk
                refine W_region ?_
                refine WL_val rfl rfl rfl (st_mv (v := .pointer _) rfl) ?_
                refine WL_call rfl rfl rfl (writeString_ok bb _ _ ⟨#[42, 42]⟩ _ hB (by simp only [List.length_append, List.length_cons, List.length_nil] at *; show _ + 2 ≤ _; omega)) (ent_go rfl) ?_
                rintro _ w23 ⟨rfl, g24, hB25, hst26⟩
                replace hs := hs.trans hst26
                replace hst := hst.trans hst26
                replace hps := hps.step hB.gt hst26
                replace hpr := hpr.step hB.gt hst26
                replace hpw := hpw.step hB.gt hst26
                replace hb8 := hb8.step hst26
                replace hB := hB25; clear hB25
                refine WL_nil ?_
                refine W_region ?_
                refine WL_val rfl rfl rfl (st_add rfl rfl (by omega) (by omega)) ?_
                refine WL_val rfl rfl rfl (st_mv (v := .int _ _) rfl) ?_
                refine WL_nil ?_
                refine rnd_end ?_ (m - 1) ?_ ?_
                · repeat (first | exact agree_in rfl rfl (agree_refl _ _) | exact agree_refl _ _ | refine agree_in rfl rfl ?_ | refine agree_upd rfl ?_)
                · omega
                · refine ⟨k + 1, _, by omega, vec1 rfl, ?_, hst⟩
                  rw [hrt, hpp]
                  simpa using hB
              · have g37 := of_decide_eq_false h37
                refine W_seq ?_
                refine W_region ?_
                refine WL_val rfl rfl rfl (st_eql rfl rfl) ?_
                refine WL_val rfl rfl rfl (st_as (v := .bool _) rfl) ?_
                refine WL_nil ?_
                refine W_cond rfl (fun h41 => ?_) (fun h41 => ?_)
                · have g41 := of_decide_eq_true h41
                  have hpp : p.print within = setL p := by rw [p.print_eq]; simp [g41]
                  rw [hpp] at hlk
                  refine W_region ?_
                  refine WL_val rfl rfl rfl (st_mv (v := .pointer _) rfl) ?_
                  refine WL_val rfl rfl rfl (st_loada ⟨_, Tryd.underlying33, rfl⟩ ti33 rfl hb8.cells rfl) ?_
                  refine WL_call rfl rfl rfl (printSet_ok bb _ _ p ra wa rcp wcp _ hB hpr (by simp only [List.length_append]; omega)) (ent_go rfl) ?_
                  rintro _ w27 ⟨rfl, g28, hB29, hst30⟩
                  replace hs := hs.trans hst30
                  replace hst := hst.trans hst30
                  replace hps := hps.step hB.gt hst30
                  replace hpr := hpr.step hB.gt hst30
                  replace hpw := hpw.step hB.gt hst30
                  replace hb8 := hb8.step hst30
                  replace hB := hB29; clear hB29
                  refine WL_nil ?_
                  refine W_region ?_
                  refine WL_val rfl rfl rfl (st_add rfl rfl (by omega) (by omega)) ?_
                  refine WL_val rfl rfl rfl (st_mv (v := .int _ _) rfl) ?_
                  refine WL_nil ?_
                  refine rnd_end ?_ (m - 1) ?_ ?_
                  · repeat (first | exact agree_in rfl rfl (agree_refl _ _) | exact agree_refl _ _ | refine agree_in rfl rfl ?_ | refine agree_upd rfl ?_)
                  · omega
                  · refine ⟨k + 1, _, by omega, vec1 rfl, ?_, hst⟩
                    rw [hrt, hpp]
                    simpa using hB
                · have g41 := of_decide_eq_false h41
                  refine W_seq ?_
                  refine W_region ?_
                  refine WL_val rfl rfl rfl (st_eql rfl rfl) ?_
                  refine WL_val rfl rfl rfl (st_as (v := .bool _) rfl) ?_
                  refine WL_nil ?_
                  refine W_cond rfl (fun h46 => ?_) (fun h46 => ?_)
                  · have g46 := of_decide_eq_true h46
                    have hpp : p.print within = printW true p.ways ++ [125] := by rw [p.print_eq]; simp [g46]
                    rw [hpp] at hlk
                    refine W_seq ?_
                    refine W_seq ?_
                    obtain ⟨bs2, hbs2⟩ : ∃ b, b = bs ++ printL within (ps.take k) := ⟨_, rfl⟩
                    rw [← hbs2] at hB
                    rw [List.length_append] at hlk
                    have hl2 : bs2.length + (printW true p.ways).length + 1 ≤ 1099511627776 := by rw [hbs2, List.length_append]; simp only [List.length_cons, List.length_nil] at hlk; omega
                    refine W_region ?_
                    refine WL_val rfl rfl rfl (st_fieldAddr (off := 4) Tryd.underlying33 rfl rfl ti31 rfl) ?_
                    refine WL_val rfl rfl rfl (st_load ⟨_, Tryd.underlying31, rfl⟩ rfl (hb8.cell 4 rfl)) ?_
                    refine WL_val rfl rfl rfl (st_len Tryd.underlying31 rfl) ?_
                    refine WL_val rfl rfl rfl (st_mv (v := (.int .i64 0)) rfl) ?_
                    refine WL_nil ?_
                    refine W_block ?_
                    refine W_loop [51] [9, 10, 51, 52, 53, 54, 55, 56, 57, 58, 59, 60, 61, 62, 63, 64] (fun m vs w1 => ∃ j g1 : Nat, j + m = p.ways.length ∧ vs = [.int .i64 (j : Int)] ∧ Bld w1 bb g1 (bs2 ++ printW true (p.ways.take j)) ∧ BStep bb g8 g1 w5 w1) ?_ ?_
                    · exact ⟨p.ways.length, 0, _, by omega, rfl, by simpa [printW] using hB, BStep.refl _ _ _⟩
                    · intro m2 vs w31 u hI
                      obtain ⟨j, gj, hj, rfl, hB2, hst2⟩ := hI
                      have hs := hs.trans hst2
                      have hst := hst.trans hst2
                      have hps := hps.step hB.gt hst2
                      have hpr := hpr.step hB.gt hst2
                      have hpw := hpw.step hB.gt hst2
                      have hb8 := hb8.step hst2
                      clear hB
                      have hB := hB2; clear hB2
                      refine W_seq ?_
                      refine W_region ?_
                      refine WL_val rfl rfl rfl (st_lss rfl rfl) ?_
                      refine WL_nil ?_
                      refine W_seq ?_
                      refine W_cond rfl (fun h52 => ?_) (fun h52 => ?_)
                      · have g52 := of_decide_eq_true h52
                        refine W_skip ?_
                        refine W_seq ?_
                        refine W_block ?_
                        refine W_seq ?_
                        have hj' : j < p.ways.length := by omega
                        obtain ⟨wb, wo, v2, hwD, hwa, hwc, hwv⟩ := WaysAt.at hpw hj'
                        have hlk2 := printW_take_le true p.ways (j + 1)
                        rw [printW_take true hj', List.length_append, List.length_cons] at hlk2
                        have hrt2 := printW_take true hj'
                        have hle2 := cntW_drop p.ways j
                        rw [drop_at hj'] at hle2
                        generalize p.ways[j] = q at hwc hwv hlk2 hrt2 hle2
                        simp only [cntW] at hle2
                        obtain ⟨va, vcp, rfl, hvl⟩ := hwv.form
                        refine W_region ?_
                        refine WL_val rfl rfl rfl (st_mv (v := .int _ _) rfl) ?_
                        refine WL_val rfl rfl rfl (st_indexAddr Tryd.underlying31 ti22 rfl hwa rfl (by omega)) ?_
                        refine WL_val rfl rfl rfl (st_load ⟨_, Tryd.underlying22, rfl⟩ rfl hwc) ?_
                        refine WL_val rfl rfl rfl (st_as (v := .int _ _) rfl) ?_
                        refine WL_val rfl rfl rfl (st_as (v := .slice _ _ _) rfl) ?_
                        refine WL_nil ?_
                        refine W_seq ?_
                        have hmin : min j 1 < (⟨#[123, 44]⟩ : ByteArray).size := by show _ < 2; omega
                        have hsep : (⟨#[123, 44]⟩ : ByteArray)[min j 1] = if True ∧ j = 0 then 123 else 44 := by rcases j with _ | j <;> simp <;> rfl
                        refine W_region ?_
                        refine WL_val rfl rfl rfl (st_mv (v := .pointer _) rfl) ?_
                        refine WL_val rfl rfl rfl (st_mv (v := .int _ _) rfl) ?_
                        refine WL_val rfl rfl rfl (st_min rfl rfl) ?_
                        refine WL_val rfl rfl rfl (st_index (k := .i64) (i := min j 1) Tryd.underlying9 rfl (by exact vint (by omega)) hmin) ?_
                        refine WL_call rfl rfl rfl (writeByte_ok bb _ _ (⟨#[123, 44]⟩ : ByteArray)[min j 1] _ hB (by simp only [List.length_append]; omega)) (ent_go rfl) ?_
                        rintro _ w32 ⟨rfl, g33, hB34, hst35⟩
                        replace hs := hs.trans hst35
                        replace hst2 := hst2.trans hst35
                        replace hst := hst.trans hst35
                        replace hps := hps.step hB.gt hst35
                        replace hpr := hpr.step hB.gt hst35
                        replace hpw := hpw.step hB.gt hst35
                        replace hb8 := hb8.step hst35
                        replace hwv := hwv.step hB.gt hst35
                        replace hB := hB34; clear hB34
                        refine WL_nil ?_
                        rw [hsep] at hB
                        refine W_region ?_
                        refine WL_val rfl rfl rfl (st_mv (v := .pointer _) rfl) ?_
                        refine WL_val rfl rfl rfl (st_mv (v := .slice _ _ _) rfl) ?_
                        refine WL_call rfl rfl rfl (ih q (by have := p.cnt_eq; omega) bb _ _ true _ _ hB hwv (by simp only [List.length_append, List.length_cons, List.length_nil]; omega)) (ent_go rfl) ?_
                        rintro _ w36 ⟨rfl, g37, hB38, hst39⟩
                        replace hs := hs.trans hst39
                        replace hst2 := hst2.trans hst39
                        replace hst := hst.trans hst39
                        replace hps := hps.step hB.gt hst39
                        replace hpr := hpr.step hB.gt hst39
                        replace hpw := hpw.step hB.gt hst39
                        replace hb8 := hb8.step hst39
                        replace hwv := hwv.step hB.gt hst39
                        replace hB := hB38; clear hB38
                        refine WL_nil ?_
                        refine W_region ?_
                        refine WL_val rfl rfl rfl (st_add rfl rfl (by omega) (by omega)) ?_
                        refine WL_val rfl rfl rfl (st_mv (v := .int _ _) rfl) ?_
                        refine WL_nil ?_
                        refine rnd_end ?_ (m2 - 1) ?_ ?_
                        · repeat (first | exact agree_in rfl rfl (agree_refl _ _) | exact agree_refl _ _ | refine agree_in rfl rfl ?_ | refine agree_upd rfl ?_)
                        · omega
                        · refine ⟨j + 1, _, by omega, vec1 rfl, ?_, hst2⟩
                          rw [hrt2]
                          simpa using hB
                      · have g52 := of_decide_eq_false h52
                        refine W_exit ?_
                        rw [List.take_of_length_le (by omega), hbs2] at hB
                        refine W_region ?_
                        refine WL_val rfl rfl rfl (st_mv (v := .pointer _) rfl) ?_
                        refine WL_call rfl rfl rfl (writeByte_ok bb _ _ 125 _ hB (by simp only [List.length_append, List.length_cons, List.length_nil] at *; omega)) (ent_go rfl) ?_
                        rintro _ w40 ⟨rfl, g41, hB42, hst43⟩
                        replace hs := hs.trans hst43
                        replace hst2 := hst2.trans hst43
                        replace hst := hst.trans hst43
                        replace hps := hps.step hB.gt hst43
                        replace hpr := hpr.step hB.gt hst43
                        replace hpw := hpw.step hB.gt hst43
                        replace hb8 := hb8.step hst43
                        replace hB := hB42; clear hB42
                        refine WL_nil ?_
                        refine W_region ?_
                        refine WL_val rfl rfl rfl (st_add rfl rfl (by omega) (by omega)) ?_
                        refine WL_val rfl rfl rfl (st_mv (v := .int _ _) rfl) ?_
                        refine WL_nil ?_
                        refine rnd_end ?_ (m - 1) ?_ ?_
                        · repeat (first | exact agree_in rfl rfl (agree_refl _ _) | exact agree_refl _ _ | refine agree_in rfl rfl ?_ | refine agree_upd rfl ?_)
                        · omega
                        · refine ⟨k + 1, _, by omega, vec1 rfl, ?_, hst⟩
                          rw [hrt, hpp]
                          simpa using hB
                  · have hpp : p.print within = [] := by rw [p.print_eq]; simp [of_decide_eq_false h22, of_decide_eq_false h29, of_decide_eq_false h33, of_decide_eq_false h37, of_decide_eq_false h41, of_decide_eq_false h46]
                    refine W_skip ?_
                    refine W_region ?_
                    refine WL_val rfl rfl rfl (st_add rfl rfl (by omega) (by omega)) ?_
                    refine WL_val rfl rfl rfl (st_mv (v := .int _ _) rfl) ?_
                    refine WL_nil ?_
                    refine rnd_end ?_ (m - 1) ?_ ?_
                    · repeat (first | exact agree_in rfl rfl (agree_refl _ _) | exact agree_refl _ _ | refine agree_in rfl rfl ?_ | refine agree_upd rfl ?_)
                    · omega
                    · refine ⟨k + 1, _, by omega, vec1 rfl, ?_, hst⟩
                      rw [hrt, hpp]
                      simpa using hB
      · have g17 := of_decide_eq_false h17
        refine W_exit ?_
        refine qr0 ?_
        rw [List.take_of_length_le (by omega)] at hB
        exact ⟨rfl, _, hB, hs⟩
  · have g11 := h11
    refine W_skip ?_
    refine W_seq ?_
    have hso : byts (⟨#[92, 42, 63, 91, 93, 123, 125]⟩ : ByteArray) = someL within := by rw [show within = false from h11]; rfl
    refine W_region ?_
    refine WL_val rfl rfl rfl (st_mv (v := .slice _ _ _) rfl) ?_
    refine WL_val rfl rfl rfl (st_len Tryd.underlying22 rfl) ?_
    refine WL_val rfl rfl rfl (st_mv (v := (.int .i64 0)) rfl) ?_
    refine WL_nil ?_
    refine W_block ?_
    refine W_loop [16] [8, 9, 10, 16, 17, 18, 19, 20, 21, 22, 23, 24, 25, 26, 27, 28, 29, 30, 31, 32, 33, 34, 35, 36, 37, 38, 39, 40, 41, 42, 43, 44, 45, 46, 47, 48, 49, 50, 51, 52, 53, 54, 55, 56, 57, 58, 59, 60, 61, 62, 63, 64, 65, 66, 67] (fun m vs w1 => ∃ k g1 : Nat, k + m = ps.length ∧ vs = [.int .i64 (k : Int)] ∧ Bld w1 bb g1 (bs ++ printL within (ps.take k)) ∧ BStep bb g g1 w w1) ?_ ?_
    · exact ⟨ps.length, 0, _, by omega, rfl, by simpa [printL] using hB, BStep.refl _ _ _⟩
    · intro m vs w44 u hI
      obtain ⟨k, gk, hk, rfl, hB2, hst⟩ := hI
      have hs := hs.trans hst
      have hps := hps.step hB.gt hst
      clear hB
      have hB := hB2; clear hB2
      refine W_seq ?_
      refine W_region ?_
      refine WL_val rfl rfl rfl (st_lss rfl rfl) ?_
      refine WL_nil ?_
      refine W_seq ?_
      refine W_cond rfl (fun h17 => ?_) (fun h17 => ?_)
      · have g17 := of_decide_eq_true h17
        refine W_skip ?_
        refine W_seq ?_
        refine W_block ?_
        refine W_seq ?_
        have hk' : k < ps.length := by omega
        obtain ⟨pb, po, rv, wv, hpD, hpa, hpc, hpr, hpw⟩ := hps.at hk'
        have hlk := printL_take_le within ps (k + 1)
        rw [printL_take within hk', List.length_append] at hlk
        have hrt := printL_take within hk'
        have hcnt : ps[k].cnt ≤ cntP ps := by have := cntP_drop ps k; rw [drop_at hk'] at this; simp only [cntP] at this; omega
        generalize ps[k] = p at hpc hpr hpw hlk hrt hcnt
        obtain ⟨wa, wcp, rfl, hwl⟩ := hpw.form
        obtain ⟨ra, rcp, rfl, hrl⟩ := hpr.form
        refine W_region ?_
        refine WL_val rfl rfl rfl (st_indexAddr Tryd.underlying22 ti33 rfl hpa rfl (by omega)) ?_
        refine WL_val rfl rfl rfl (st_loada ⟨_, Tryd.underlying33, rfl⟩ ti33 rfl hpc rfl) ?_
        refine WL_ef (ef_alloc ti33) rfl rfl rfl ?_
        rintro _ w46 ⟨b45, rfl, hl8, hb8, hx47⟩
        refine WL_su (su_storea ti33 rfl hb8 rfl rfl (Nat.le_of_ble_eq_true rfl) rfl) rfl rfl ?_
        rintro w48 ⟨hnb, hf49⟩
        have hx50 : Ext w44 w48 := hx47.trans_new hf49 (fun _ h => by subst h; exact hl8)
        clear hb8
        have hb8 : Blk _ _ _ [_, _, _, _, _] := hnb
        clear hnb
        replace hs := hs.ext hx50
        replace hst := hst.ext hx50
        replace hps := hps.ext hx50
        replace hpr := hpr.ext hx50
        replace hpw := hpw.ext hx50
        replace hB := hB.ext hx50
        obtain ⟨g51, hB53, hst52, hb8⟩ := hB.apt hb8 (by decide) (by decide)
        replace hs := hs.trans hst52
        replace hst := hst.trans hst52
        replace hps := hps.step hB.gt hst52
        replace hpr := hpr.step hB.gt hst52
        replace hpw := hpw.step hB.gt hst52
        replace hB := hB53; clear hB53
        refine WL_nil ?_
        refine W_seq ?_
        refine W_region ?_
        refine WL_val rfl rfl rfl (st_fieldAddr (off := 0) Tryd.underlying33 rfl rfl ti3 rfl) ?_
        refine WL_val rfl rfl rfl (st_load ⟨_, Tryd.underlying3, rfl⟩ rfl (hb8.cell 0 rfl)) ?_
        refine WL_nil ?_
        refine W_block ?_
        refine W_seq ?_
        refine W_region ?_
        refine WL_val rfl rfl rfl (st_eql rfl rfl) ?_
        refine WL_val rfl rfl rfl (st_as (v := .bool _) rfl) ?_
        refine WL_nil ?_
        refine W_cond rfl (fun h22 => ?_) (fun h22 => ?_)
        · have g22 := of_decide_eq_true h22
          have hpp : p.print within = escL (someL within) (byts p.text) := by rw [p.print_eq]; simp [g22]
          rw [hpp] at hlk
          refine W_region ?_
          refine WL_val rfl rfl rfl (st_mv (v := .pointer _) rfl) ?_
          refine WL_val rfl rfl rfl (st_fieldAddr (off := 1) Tryd.underlying33 rfl rfl ti9 rfl) ?_
          refine WL_val rfl rfl rfl (st_load ⟨_, Tryd.underlying9, rfl⟩ rfl (hb8.cell 1 rfl)) ?_
          refine WL_val rfl rfl rfl (st_mv (v := .string _) rfl) ?_
          refine WL_call rfl rfl rfl (escape_ok bb _ _ p.text (⟨#[92, 42, 63, 91, 93, 123, 125]⟩ : ByteArray) _ hB (by rw [hso]; simp only [List.length_append]; omega)) (ent_go rfl) ?_
          rintro _ w54 ⟨rfl, g55, hB56, hst57⟩
          replace hs := hs.trans hst57
          replace hst := hst.trans hst57
          replace hps := hps.step hB.gt hst57
          replace hpr := hpr.step hB.gt hst57
          replace hpw := hpw.step hB.gt hst57
          replace hb8 := hb8.step hst57
          replace hB := hB56; clear hB56
          refine WL_nil ?_
          rw [hso] at hB
          refine W_region ?_
          refine WL_val rfl rfl rfl (st_add rfl rfl (by omega) (by omega)) ?_
          refine WL_val rfl rfl rfl (st_mv (v := .int _ _) rfl) ?_
          refine WL_nil ?_
          refine rnd_end ?_ (m - 1) ?_ ?_
          · repeat (first | exact agree_in rfl rfl (agree_refl _ _) | exact agree_refl _ _ | refine agree_in rfl rfl ?_ | refine agree_upd rfl ?_)
          · omega
          · refine ⟨k + 1, _, by omega, vec1 rfl, ?_, hst⟩
            rw [hrt, hpp]
            simpa using hB
        · have g22 := of_decide_eq_false h22
          refine W_seq ?_
          refine W_region ?_
          refine WL_val rfl rfl rfl (st_eql rfl rfl) ?_
          refine WL_val rfl rfl rfl (st_as (v := .bool _) rfl) ?_
          refine WL_nil ?_
          refine W_cond rfl (fun h29 => ?_) (fun h29 => ?_)
          · have g29 := of_decide_eq_true h29
            have hpp : p.print within = [63] := by rw [p.print_eq]; simp [g29]
            rw [hpp] at hlk
            refine W_region ?_
            refine WL_val rfl rfl rfl (st_mv (v := .pointer _) rfl) ?_
            refine WL_call rfl rfl rfl (writeByte_ok bb _ _ 63 _ hB (by simp only [List.length_append, List.length_cons, List.length_nil] at *; omega)) (ent_go rfl) ?_
            rintro _ w58 ⟨rfl, g59, hB60, hst61⟩
            replace hs := hs.trans hst61
            replace hst := hst.trans hst61
            replace hps := hps.step hB.gt hst61
            replace hpr := hpr.step hB.gt hst61
            replace hpw := hpw.step hB.gt hst61
            replace hb8 := hb8.step hst61
            replace hB := hB60; clear hB60
            refine WL_nil ?_
            refine W_region ?_
            refine WL_val rfl rfl rfl (st_add rfl rfl (by omega) (by omega)) ?_
            refine WL_val rfl rfl rfl (st_mv (v := .int _ _) rfl) ?_
            refine WL_nil ?_
            refine rnd_end ?_ (m - 1) ?_ ?_
            · repeat (first | exact agree_in rfl rfl (agree_refl _ _) | exact agree_refl _ _ | refine agree_in rfl rfl ?_ | refine agree_upd rfl ?_)
            · omega
            · refine ⟨k + 1, _, by omega, vec1 rfl, ?_, hst⟩
              rw [hrt, hpp]
              simpa using hB
          · have g29 := of_decide_eq_false h29
            refine W_seq ?_
            refine W_region ?_
            refine WL_val rfl rfl rfl (st_eql rfl rfl) ?_
            refine WL_val rfl rfl rfl (st_as (v := .bool _) rfl) ?_
            refine WL_nil ?_
            refine W_cond rfl (fun h33 => ?_) (fun h33 => ?_)
            · have g33 := of_decide_eq_true h33
              have hpp : p.print within = [42] := by rw [p.print_eq]; simp [g33]
              rw [hpp] at hlk
              refine W_region ?_
              refine WL_val rfl rfl rfl (st_mv (v := .pointer _) rfl) ?_
              refine WL_call rfl rfl rfl (writeByte_ok bb _ _ 42 _ hB (by simp only [List.length_append, List.length_cons, List.length_nil] at *; omega)) (ent_go rfl) ?_
              rintro _ w62 ⟨rfl, g63, hB64, hst65⟩
              replace hs := hs.trans hst65
              replace hst := hst.trans hst65
              replace hps := hps.step hB.gt hst65
              replace hpr := hpr.step hB.gt hst65
              replace hpw := hpw.step hB.gt hst65
              replace hb8 := hb8.step hst65
              replace hB := hB64; clear hB64
              refine WL_nil ?_
              refine W_region ?_
              refine WL_val rfl rfl rfl (st_add rfl rfl (by omega) (by omega)) ?_
              refine WL_val rfl rfl rfl (st_mv (v := .int _ _) rfl) ?_
              refine WL_nil ?_
              refine rnd_end ?_ (m - 1) ?_ ?_
              · repeat (first | exact agree_in rfl rfl (agree_refl _ _) | exact agree_refl _ _ | refine agree_in rfl rfl ?_ | refine agree_upd rfl ?_)
              · omega
              · refine ⟨k + 1, _, by omega, vec1 rfl, ?_, hst⟩
                rw [hrt, hpp]
                simpa using hB
            · have g33 := of_decide_eq_false h33
              refine W_seq ?_
              refine W_region ?_
              refine WL_val rfl rfl rfl (st_eql rfl rfl) ?_
              refine WL_val rfl rfl rfl (st_as (v := .bool _) rfl) ?_
              refine WL_nil ?_
              refine W_cond rfl (fun h37 => ?_) (fun h37 => ?_)
              · have g37 := of_decide_eq_true h37
                have hpp : p.print within = [42, 42] := by rw [p.print_eq]; simp [g37]
                rw [hpp] at hlk
                refine W_region ?_
                refine WL_val rfl rfl rfl (st_mv (v := .pointer _) rfl) ?_
                refine WL_call rfl rfl rfl (writeString_ok bb _ _ ⟨#[42, 42]⟩ _ hB (by simp only [List.length_append, List.length_cons, List.length_nil] at *; show _ + 2 ≤ _; omega)) (ent_go rfl) ?_
                rintro _ w66 ⟨rfl, g67, hB68, hst69⟩
                replace hs := hs.trans hst69
                replace hst := hst.trans hst69
                replace hps := hps.step hB.gt hst69
                replace hpr := hpr.step hB.gt hst69
                replace hpw := hpw.step hB.gt hst69
                replace hb8 := hb8.step hst69
                replace hB := hB68; clear hB68
                refine WL_nil ?_
                refine W_region ?_
                refine WL_val rfl rfl rfl (st_add rfl rfl (by omega) (by omega)) ?_
                refine WL_val rfl rfl rfl (st_mv (v := .int _ _) rfl) ?_
                refine WL_nil ?_
                refine rnd_end ?_ (m - 1) ?_ ?_
                · repeat (first | exact agree_in rfl rfl (agree_refl _ _) | exact agree_refl _ _ | refine agree_in rfl rfl ?_ | refine agree_upd rfl ?_)
                · omega
                · refine ⟨k + 1, _, by omega, vec1 rfl, ?_, hst⟩
                  rw [hrt, hpp]
                  simpa using hB
              · have g37 := of_decide_eq_false h37
                refine W_seq ?_
                refine W_region ?_
                refine WL_val rfl rfl rfl (st_eql rfl rfl) ?_
                refine WL_val rfl rfl rfl (st_as (v := .bool _) rfl) ?_
                refine WL_nil ?_
                refine W_cond rfl (fun h41 => ?_) (fun h41 => ?_)
                · have g41 := of_decide_eq_true h41
                  have hpp : p.print within = setL p := by rw [p.print_eq]; simp [g41]
                  rw [hpp] at hlk
                  refine W_region ?_
                  refine WL_val rfl rfl rfl (st_mv (v := .pointer _) rfl) ?_
                  refine WL_val rfl rfl rfl (st_loada ⟨_, Tryd.underlying33, rfl⟩ ti33 rfl hb8.cells rfl) ?_
                  refine WL_call rfl rfl rfl (printSet_ok bb _ _ p ra wa rcp wcp _ hB hpr (by simp only [List.length_append]; omega)) (ent_go rfl) ?_
                  rintro _ w70 ⟨rfl, g71, hB72, hst73⟩
                  replace hs := hs.trans hst73
                  replace hst := hst.trans hst73
                  replace hps := hps.step hB.gt hst73
                  replace hpr := hpr.step hB.gt hst73
                  replace hpw := hpw.step hB.gt hst73
                  replace hb8 := hb8.step hst73
                  replace hB := hB72; clear hB72
                  refine WL_nil ?_
                  refine W_region ?_
                  refine WL_val rfl rfl rfl (st_add rfl rfl (by omega) (by omega)) ?_
                  refine WL_val rfl rfl rfl (st_mv (v := .int _ _) rfl) ?_
                  refine WL_nil ?_
                  refine rnd_end ?_ (m - 1) ?_ ?_
                  · repeat (first | exact agree_in rfl rfl (agree_refl _ _) | exact agree_refl _ _ | refine agree_in rfl rfl ?_ | refine agree_upd rfl ?_)
                  · omega
                  · refine ⟨k + 1, _, by omega, vec1 rfl, ?_, hst⟩
                    rw [hrt, hpp]
                    simpa using hB
                · have g41 := of_decide_eq_false h41
                  refine W_seq ?_
                  refine W_region ?_
                  refine WL_val rfl rfl rfl (st_eql rfl rfl) ?_
                  refine WL_val rfl rfl rfl (st_as (v := .bool _) rfl) ?_
                  refine WL_nil ?_
                  refine W_cond rfl (fun h46 => ?_) (fun h46 => ?_)
                  · have g46 := of_decide_eq_true h46
                    have hpp : p.print within = printW true p.ways ++ [125] := by rw [p.print_eq]; simp [g46]
                    rw [hpp] at hlk
                    refine W_seq ?_
                    refine W_seq ?_
                    obtain ⟨bs2, hbs2⟩ : ∃ b, b = bs ++ printL within (ps.take k) := ⟨_, rfl⟩
                    rw [← hbs2] at hB
                    rw [List.length_append] at hlk
                    have hl2 : bs2.length + (printW true p.ways).length + 1 ≤ 1099511627776 := by rw [hbs2, List.length_append]; simp only [List.length_cons, List.length_nil] at hlk; omega
                    refine W_region ?_
                    refine WL_val rfl rfl rfl (st_fieldAddr (off := 4) Tryd.underlying33 rfl rfl ti31 rfl) ?_
                    refine WL_val rfl rfl rfl (st_load ⟨_, Tryd.underlying31, rfl⟩ rfl (hb8.cell 4 rfl)) ?_
                    refine WL_val rfl rfl rfl (st_len Tryd.underlying31 rfl) ?_
                    refine WL_val rfl rfl rfl (st_mv (v := (.int .i64 0)) rfl) ?_
                    refine WL_nil ?_
                    refine W_block ?_
                    refine W_loop [51] [9, 10, 51, 52, 53, 54, 55, 56, 57, 58, 59, 60, 61, 62, 63, 64] (fun m vs w1 => ∃ j g1 : Nat, j + m = p.ways.length ∧ vs = [.int .i64 (j : Int)] ∧ Bld w1 bb g1 (bs2 ++ printW true (p.ways.take j)) ∧ BStep bb g51 g1 w48 w1) ?_ ?_
                    · exact ⟨p.ways.length, 0, _, by omega, rfl, by simpa [printW] using hB, BStep.refl _ _ _⟩
                    · intro m2 vs w74 u hI
                      obtain ⟨j, gj, hj, rfl, hB2, hst2⟩ := hI
                      have hs := hs.trans hst2
                      have hst := hst.trans hst2
                      have hps := hps.step hB.gt hst2
                      have hpr := hpr.step hB.gt hst2
                      have hpw := hpw.step hB.gt hst2
                      have hb8 := hb8.step hst2
                      clear hB
                      have hB := hB2; clear hB2
                      refine W_seq ?_
                      refine W_region ?_
                      refine WL_val rfl rfl rfl (st_lss rfl rfl) ?_
                      refine WL_nil ?_
                      refine W_seq ?_
                      refine W_cond rfl (fun h52 => ?_) (fun h52 => ?_)
                      · have g52 := of_decide_eq_true h52
                        refine W_skip ?_
                        refine W_seq ?_
                        refine W_block ?_
                        refine W_seq ?_
                        have hj' : j < p.ways.length := by omega
                        obtain ⟨wb, wo, v2, hwD, hwa, hwc, hwv⟩ := WaysAt.at hpw hj'
                        have hlk2 := printW_take_le true p.ways (j + 1)
                        rw [printW_take true hj', List.length_append, List.length_cons] at hlk2
                        have hrt2 := printW_take true hj'
                        have hle2 := cntW_drop p.ways j
                        rw [drop_at hj'] at hle2
                        generalize p.ways[j] = q at hwc hwv hlk2 hrt2 hle2
                        simp only [cntW] at hle2
                        obtain ⟨va, vcp, rfl, hvl⟩ := hwv.form
                        refine W_region ?_
                        refine WL_val rfl rfl rfl (st_mv (v := .int _ _) rfl) ?_
                        refine WL_val rfl rfl rfl (st_indexAddr Tryd.underlying31 ti22 rfl hwa rfl (by omega)) ?_
                        refine WL_val rfl rfl rfl (st_load ⟨_, Tryd.underlying22, rfl⟩ rfl hwc) ?_
                        refine WL_val rfl rfl rfl (st_as (v := .int _ _) rfl) ?_
                        refine WL_val rfl rfl rfl (st_as (v := .slice _ _ _) rfl) ?_
                        refine WL_nil ?_
                        refine W_seq ?_
                        have hmin : min j 1 < (⟨#[123, 44]⟩ : ByteArray).size := by show _ < 2; omega
                        have hsep : (⟨#[123, 44]⟩ : ByteArray)[min j 1] = if True ∧ j = 0 then 123 else 44 := by rcases j with _ | j <;> simp <;> rfl
                        refine W_region ?_
                        refine WL_val rfl rfl rfl (st_mv (v := .pointer _) rfl) ?_
                        refine WL_val rfl rfl rfl (st_mv (v := .int _ _) rfl) ?_
                        refine WL_val rfl rfl rfl (st_min rfl rfl) ?_
                        refine WL_val rfl rfl rfl (st_index (k := .i64) (i := min j 1) Tryd.underlying9 rfl (by exact vint (by omega)) hmin) ?_
                        refine WL_call rfl rfl rfl (writeByte_ok bb _ _ (⟨#[123, 44]⟩ : ByteArray)[min j 1] _ hB (by simp only [List.length_append]; omega)) (ent_go rfl) ?_
                        rintro _ w75 ⟨rfl, g76, hB77, hst78⟩
                        replace hs := hs.trans hst78
                        replace hst2 := hst2.trans hst78
                        replace hst := hst.trans hst78
                        replace hps := hps.step hB.gt hst78
                        replace hpr := hpr.step hB.gt hst78
                        replace hpw := hpw.step hB.gt hst78
                        replace hb8 := hb8.step hst78
                        replace hwv := hwv.step hB.gt hst78
                        replace hB := hB77; clear hB77
                        refine WL_nil ?_
                        rw [hsep] at hB
                        refine W_region ?_
                        refine WL_val rfl rfl rfl (st_mv (v := .pointer _) rfl) ?_
                        refine WL_val rfl rfl rfl (st_mv (v := .slice _ _ _) rfl) ?_
                        refine WL_call rfl rfl rfl (ih q (by have := p.cnt_eq; omega) bb _ _ true _ _ hB hwv (by simp only [List.length_append, List.length_cons, List.length_nil]; omega)) (ent_go rfl) ?_
                        rintro _ w79 ⟨rfl, g80, hB81, hst82⟩
                        replace hs := hs.trans hst82
                        replace hst2 := hst2.trans hst82
                        replace hst := hst.trans hst82
                        replace hps := hps.step hB.gt hst82
                        replace hpr := hpr.step hB.gt hst82
                        replace hpw := hpw.step hB.gt hst82
                        replace hb8 := hb8.step hst82
                        replace hwv := hwv.step hB.gt hst82
                        replace hB := hB81; clear hB81
                        refine WL_nil ?_
                        refine W_region ?_
                        refine WL_val rfl rfl rfl (st_add rfl rfl (by omega) (by omega)) ?_
                        refine WL_val rfl rfl rfl (st_mv (v := .int _ _) rfl) ?_
                        refine WL_nil ?_
                        refine rnd_end ?_ (m2 - 1) ?_ ?_
                        · repeat (first | exact agree_in rfl rfl (agree_refl _ _) | exact agree_refl _ _ | refine agree_in rfl rfl ?_ | refine agree_upd rfl ?_)
                        · omega
                        · refine ⟨j + 1, _, by omega, vec1 rfl, ?_, hst2⟩
                          rw [hrt2]
                          simpa using hB
                      · have g52 := of_decide_eq_false h52
                        refine W_exit ?_
                        rw [List.take_of_length_le (by omega), hbs2] at hB
                        refine W_region ?_
                        refine WL_val rfl rfl rfl (st_mv (v := .pointer _) rfl) ?_
                        refine WL_call rfl rfl rfl (writeByte_ok bb _ _ 125 _ hB (by simp only [List.length_append, List.length_cons, List.length_nil] at *; omega)) (ent_go rfl) ?_
                        rintro _ w83 ⟨rfl, g84, hB85, hst86⟩
                        replace hs := hs.trans hst86
                        replace hst2 := hst2.trans hst86
                        replace hst := hst.trans hst86
                        replace hps := hps.step hB.gt hst86
                        replace hpr := hpr.step hB.gt hst86
                        replace hpw := hpw.step hB.gt hst86
                        replace hb8 := hb8.step hst86
                        replace hB := hB85; clear hB85
                        refine WL_nil ?_
                        refine W_region ?_
                        refine WL_val rfl rfl rfl (st_add rfl rfl (by omega) (by omega)) ?_
                        refine WL_val rfl rfl rfl (st_mv (v := .int _ _) rfl) ?_
                        refine WL_nil ?_
                        refine rnd_end ?_ (m - 1) ?_ ?_
                        · repeat (first | exact agree_in rfl rfl (agree_refl _ _) | exact agree_refl _ _ | refine agree_in rfl rfl ?_ | refine agree_upd rfl ?_)
                        · omega
                        · refine ⟨k + 1, _, by omega, vec1 rfl, ?_, hst⟩
                          rw [hrt, hpp]
                          simpa using hB
                  · have hpp : p.print within = [] := by rw [p.print_eq]; simp [of_decide_eq_false h22, of_decide_eq_false h29, of_decide_eq_false h33, of_decide_eq_false h37, of_decide_eq_false h41, of_decide_eq_false h46]
                    refine W_skip ?_
                    refine W_region ?_
                    refine WL_val rfl rfl rfl (st_add rfl rfl (by omega) (by omega)) ?_
                    refine WL_val rfl rfl rfl (st_mv (v := .int _ _) rfl) ?_
                    refine WL_nil ?_
                    refine rnd_end ?_ (m - 1) ?_ ?_
                    · repeat (first | exact agree_in rfl rfl (agree_refl _ _) | exact agree_refl _ _ | refine agree_in rfl rfl ?_ | refine agree_upd rfl ?_)
                    · omega
                    · refine ⟨k + 1, _, by omega, vec1 rfl, ?_, hst⟩
                      rw [hrt, hpp]
                      simpa using hB
      · have g17 := of_decide_eq_false h17
        refine W_exit ?_
        refine qr0 ?_
        rw [List.take_of_length_le (by omega)] at hB
        exact ⟨rfl, _, hB, hs⟩
end Go.Proofs.YtndfhicdabdafaaDoor
