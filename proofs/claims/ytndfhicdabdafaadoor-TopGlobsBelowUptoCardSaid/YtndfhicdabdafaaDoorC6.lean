/- Walks of the printers. -/
import Derived.Test.YtndfhicdabdafaaDoorC5
import Derived.Test.YtndfhicdabdafaaDoorC2
namespace Go.Proofs.YtndfhicdabdafaaDoor
open Go Go.RowKit

theorem byts_length (s : ByteArray) : (byts s).length = s.size := by simp [byts]
theorem escape_ok (bb g : Nat) (bs : List UInt8) (s so : ByteArray) (w : World) (hB : Bld w bb g bs) (hl : bs.length + (escL (byts so) (byts s)).length ≤ 1099511627776) :
    Fun Tryd.prog 38 [.pointer (some ⟨bb, 0, none⟩), .string s, .string so] w (fun r w' => r = .tuple #[] ∧ ∃ g', Bld w' bb g' (bs ++ escL (byts so) (byts s)) ∧ BStep bb g g' w w') := by
  have hs := BStep.refl bb g w
  have hge := escL_ge (byts so) (byts s)
  rw [byts_length] at hge
  refine fun0 Tryd.func38 rfl (by kernel_rfl) rfl rfl rfl ?_
  refine W_seq ?_
  refine W_region ?_
  refine WL_val rfl rfl rfl (st_mv (v := .string _) rfl) ?_
  refine WL_val rfl rfl rfl (st_lens Tryd.underlying9 rfl) ?_
  refine WL_val rfl rfl rfl (st_mv (v := (.int .i64 0)) rfl) ?_
  refine WL_nil ?_
  refine W_block ?_
  refine W_loop [9] [6, 9, 10, 11, 12, 13, 14, 15, 16, 17, 18, 19, 20, 21, 22, 23, 24] (fun m vs w1 => ∃ k g1 : Nat, k + m = s.size ∧ vs = [.int .i64 (k : Int)] ∧ Bld w1 bb g1 (bs ++ escL (byts so) ((byts s).take k)) ∧ BStep bb g g1 w w1) ?_ ?_
  · exact ⟨s.size, 0, g, by omega, rfl, by simpa [escL] using hB, hs⟩
  · intro m vs w1 u hI
    obtain ⟨k, g1, hk, rfl, hB, hs⟩ := hI
    have hlk := escL_take (byts so) (byts s) k
    refine W_seq ?_
    refine W_region ?_
    refine WL_val rfl rfl rfl (st_lss rfl rfl) ?_
    refine WL_nil ?_
    refine W_seq ?_
    refine W_cond rfl (fun h10 => ?_) (fun h10 => ?_)
    · have g10 := of_decide_eq_true h10
      refine W_skip ?_
      refine W_seq ?_
      refine W_block ?_
      refine W_seq ?_
      have hk' : k < s.size := by omega
      have hlk2 := escL_take (byts so) (byts s) (k + 1)
      rw [take_snoc s k hk', escL_append, escL_one, List.length_append] at hlk2
      refine W_region ?_
      refine WL_val rfl rfl rfl (st_mv (v := .int _ _) rfl) ?_
      refine WL_val rfl rfl rfl (st_as (v := .int _ _) rfl) ?_
      refine WL_nil ?_
      refine W_seq ?_
      refine W_seq ?_
      refine W_region ?_
      refine WL_val rfl rfl rfl (st_mv (v := .string _) rfl) ?_
      refine WL_val rfl rfl rfl (st_mv (v := .string _) rfl) ?_
      refine WL_val rfl rfl rfl (st_mv (v := .int _ _) rfl) ?_
      refine WL_val rfl rfl rfl (st_index Tryd.underlying9 rfl rfl (by omega)) ?_
      refine WL_call rfl rfl rfl (hasByte_ok so s[k] _) (ent_go rfl) ?_
      rintro _ w2 ⟨rfl, rfl⟩
      refine WL_nil ?_
      refine W_cond rfl (fun h16 => ?_) (fun h16 => ?_)
      · have g16 := of_decide_eq_true h16
        have hsome : (if s[k] ∈ byts so then [92, s[k]] else [s[k]]) = [92, s[k]] := if_pos g16
        rw [hsome] at hlk2; simp only [List.length_cons, List.length_nil] at hlk2
        refine W_region ?_
        refine WL_val rfl rfl rfl (st_mv (v := .pointer _) rfl) ?_
        refine WL_call rfl rfl rfl (writeByte_ok bb _ _ 92 _ hB (by simp only [List.length_append, List.length_cons, List.length_nil]; omega)) (ent_go rfl) ?_
        rintro _ w4 ⟨rfl, g5, hB6, hst7⟩
        replace hs := hs.trans hst7
        replace hB := hB6; clear hB6
        refine WL_nil ?_
        refine W_region ?_
        refine WL_val rfl rfl rfl (st_mv (v := .pointer _) rfl) ?_
        refine WL_val rfl rfl rfl (st_mv (v := .string _) rfl) ?_
        refine WL_val rfl rfl rfl (st_mv (v := .int _ _) rfl) ?_
        refine WL_val rfl rfl rfl (st_index Tryd.underlying9 rfl rfl (by omega)) ?_
        refine WL_call rfl rfl rfl (writeByte_ok bb _ _ s[k] _ hB (by simp only [List.length_append, List.length_cons, List.length_nil]; omega)) (ent_go rfl) ?_
        rintro _ w8 ⟨rfl, g9, hB10, hst11⟩
        replace hs := hs.trans hst11
        replace hB := hB10; clear hB10
        refine WL_nil ?_
        refine W_region ?_
        refine WL_val rfl rfl rfl (st_add rfl rfl (by omega) (by omega)) ?_
        refine WL_val rfl rfl rfl (st_mv (v := .int _ _) rfl) ?_
        refine WL_nil ?_
        refine rnd_end ?_ (m - 1) ?_ ?_
        · repeat (first | exact agree_in rfl rfl (agree_refl _ _) | exact agree_refl _ _ | refine agree_in rfl rfl ?_ | refine agree_upd rfl ?_)
        · omega
        · refine ⟨k + 1, _, by omega, vec1 rfl, ?_, hs⟩
          rw [take_snoc s k hk', escL_append, escL_one, hsome]
          simpa using hB
      · have g16 := of_decide_eq_false h16
        have hsome : (if s[k] ∈ byts so then [92, s[k]] else [s[k]]) = [s[k]] := if_neg g16
        rw [hsome] at hlk2; simp only [List.length_cons, List.length_nil] at hlk2
        refine W_skip ?_
        refine W_region ?_
        refine WL_val rfl rfl rfl (st_mv (v := .pointer _) rfl) ?_
        refine WL_val rfl rfl rfl (st_mv (v := .string _) rfl) ?_
        refine WL_val rfl rfl rfl (st_mv (v := .int _ _) rfl) ?_
        refine WL_val rfl rfl rfl (st_index Tryd.underlying9 rfl rfl (by omega)) ?_
        refine WL_call rfl rfl rfl (writeByte_ok bb _ _ s[k] _ hB (by simp only [List.length_append, List.length_cons, List.length_nil]; omega)) (ent_go rfl) ?_
        rintro _ w12 ⟨rfl, g13, hB14, hst15⟩
        replace hs := hs.trans hst15
        replace hB := hB14; clear hB14
        refine WL_nil ?_
        refine W_region ?_
        refine WL_val rfl rfl rfl (st_add rfl rfl (by omega) (by omega)) ?_
        refine WL_val rfl rfl rfl (st_mv (v := .int _ _) rfl) ?_
        refine WL_nil ?_
        refine rnd_end ?_ (m - 1) ?_ ?_
        · repeat (first | exact agree_in rfl rfl (agree_refl _ _) | exact agree_refl _ _ | refine agree_in rfl rfl ?_ | refine agree_upd rfl ?_)
        · omega
        · refine ⟨k + 1, _, by omega, vec1 rfl, ?_, hs⟩
          rw [take_snoc s k hk', escL_append, escL_one, hsome]
          simpa using hB
    · have g10 := of_decide_eq_false h10
      refine W_exit ?_
      refine qr0 ?_
      rw [List.take_of_length_le (by simp [byts]; omega)] at hB
      exact ⟨rfl, _, hB, hs⟩
theorem byteI_wrap (n : Int) : IntKind.u8.wrap n = ((byteI n).toNat : Int) := by
  unfold byteI
  simp [IntKind.wrap, IntKind.bits, IntKind.signed]
  omega
theorem bytes_one {w : World} {b : Nat} {T : TypeId} {c : UInt8} (h : Blk w b T [.int .u8 (c.toNat : Int)]) : Lib.Bytes w b 0 ⟨#[c]⟩ := by
  intro i hi
  have h0 : i = 0 := by have : i < 1 := hi; omega
  subst h0
  exact h.cell 0 rfl
theorem bound_ok (bb g cb : Nat) (bs : List UInt8) (n : Int) (w : World) (hB : Bld w bb g bs) (hc : Apt w bb g cb 53 [.pointer (some ⟨bb, 0, none⟩)]) (hl : bs.length + (boundL n).length ≤ 1099511627776) :
    Fun Tryd.prog 55 [.int .i64 n, .pointer (some ⟨cb, 0, none⟩)] w (fun r w' => r = .tuple #[] ∧ ∃ g', Bld w' bb g' (bs ++ boundL n) ∧ BStep bb g g' w w') := by
  have hs := BStep.refl bb g w
  refine fun0 Tryd.func55 rfl (by kernel_rfl) rfl rfl rfl ?_
  refine W_region ?_
  refine WL_val rfl rfl rfl (st_load ⟨_, Tryd.underlying53, rfl⟩ rfl (hc.cell 0 rfl)) ?_
  refine WL_val rfl rfl rfl (st_mv (v := .int _ _) rfl) ?_
  refine WL_val rfl rfl rfl (st_convi ⟨_, Tryd.underlying3⟩ Tryd.underlying5 rfl) ?_
  refine WL_ef (ef_buildSlice (len := 1) (cs := [.int .u8 (IntKind.u8.wrap n)]) Tryd.underlying54 ti5 (by decide) (by decide) rfl) rfl rfl rfl ?_
  rintro _ w2 ⟨gn, rfl, hgn, hbn, hx2⟩
  replace hB := hB.ext hx2
  replace hs := hs.ext hx2
  rw [byteI_wrap] at hbn
  refine WL_val rfl rfl rfl (st_conv rfl (Lib.run_convert_whole _ 54 5 9 Tryd.underlying54 Tryd.underlying5 Tryd.underlying9 gn 0 ⟨#[byteI n]⟩ (bytes_one hbn) 1)) ?_
  refine WL_call rfl rfl rfl (escape_ok bb g bs ⟨#[byteI n]⟩ ⟨#[92, 93, 94, 45]⟩ _ hB hl) (ent_go rfl) ?_
  rintro _ w1 ⟨rfl, g2, hB3, hst4⟩
  replace hs := hs.trans hst4
  replace hB := hB3; clear hB3
  refine WL_nil ?_
  refine qr0 ?_
  exact ⟨rfl, _, hB, hs⟩
theorem rangeL_len (r : Int × Int) : (rangeL r).length = (boundL r.1).length + (if IntKind.i64.wrap (r.1 + 1) < r.2 then [45] else ([] : List UInt8)).length + (if r.1 < r.2 then boundL r.2 else []).length := by
  unfold rangeL
  rw [List.length_append, List.length_append]
theorem take_flat {α : Type} (f : α → List UInt8) {l : List α} {k : Nat} (h : k < l.length) : (l.take (k + 1)).flatMap f = (l.take k).flatMap f ++ f l[k] := by
  rw [List.take_succ_eq_append_getElem h, List.flatMap_append]
  simp
theorem take_flat_le {α : Type} (f : α → List UInt8) (l : List α) (k : Nat) : ((l.take k).flatMap f).length ≤ (l.flatMap f).length := by
  have e : l.flatMap f = (l.take k).flatMap f ++ (l.drop k).flatMap f := by rw [← List.flatMap_append, List.take_append_drop]
  rw [e, List.length_append]; omega
theorem printSet_ok (bb g : Nat) (bs : List UInt8) (p : Part) (ra wa : Option Addr) (rc wc : Nat) (w : World) (hB : Bld w bb g bs) (hpr : RangesAt (· < bb) w (.slice ra p.ranges.length rc) p.ranges) (hl : bs.length + (setL p).length ≤ 1099511627776) :
    Fun Tryd.prog 41 [.pointer (some ⟨bb, 0, none⟩), .agg #[.int .i64 p.kind, .string p.text, .bool p.neg, .slice ra p.ranges.length rc, .slice wa p.ways.length wc]] w (fun r w' => r = .tuple #[] ∧ ∃ g', Bld w' bb g' (bs ++ setL p) ∧ BStep bb g g' w w') := by
  have hs := BStep.refl bb g w
  obtain ⟨_, _, _, hrl0⟩ := hpr.form
  have hl2 : 2 ≤ (setL p).length := by unfold setL; simp only [List.length_append, List.length_cons, List.length_nil]; omega
  refine fun0 Tryd.func41 rfl (by kernel_rfl) rfl rfl rfl ?_
  refine W_seq ?_
  refine W_region ?_
  refine WL_ef (ef_box (cs := [.pointer _]) rfl) rfl rfl rfl ?_
  rintro _ w2 ⟨b1, rfl, hl2, hb2, hx3⟩
  replace hs := hs.ext hx3
  replace hpr := hpr.ext hx3
  replace hB := hB.ext hx3
  obtain ⟨g4, hB6, hst5, hb2⟩ := hB.apt hb2 (by decide) (by decide)
  replace hs := hs.trans hst5
  replace hpr := hpr.step hB.gt hst5
  replace hB := hB6; clear hB6
  refine WL_ef (ef_box (cs := [_, _, _, _, _]) rfl) rfl rfl rfl ?_
  rintro _ w8 ⟨b7, rfl, hl3, hb3, hx9⟩
  replace hs := hs.ext hx9
  replace hpr := hpr.ext hx9
  replace hb2 := hb2.ext hx9
  replace hB := hB.ext hx9
  obtain ⟨g10, hB12, hst11, hb3⟩ := hB.apt hb3 (by decide) (by decide)
  replace hs := hs.trans hst11
  replace hpr := hpr.step hB.gt hst11
  replace hb2 := hb2.step hst11
  replace hB := hB12; clear hB12
  refine WL_nil ?_
  refine W_seq ?_
  refine W_region ?_
  refine WL_val rfl rfl rfl (st_makeFunc (vf := []) (vc := [.pointer _]) rfl rfl) ?_
  refine WL_val rfl rfl rfl (st_as (v := .func _ _ _) rfl) ?_
  refine WL_nil ?_
  refine W_seq ?_
  refine W_region ?_
  refine WL_val rfl rfl rfl (st_load ⟨_, Tryd.underlying53, rfl⟩ rfl (hb2.cell 0 rfl)) ?_
  refine WL_call rfl rfl rfl (writeByte_ok bb _ _ 91 _ hB (by omega)) (ent_go rfl) ?_
  rintro _ w13 ⟨rfl, g14, hB15, hst16⟩
  replace hs := hs.trans hst16
  replace hpr := hpr.step hB.gt hst16
  replace hb2 := hb2.step hst16
  replace hb3 := hb3.step hst16
  replace hB := hB15; clear hB15
  refine WL_nil ?_
  refine W_seq ?_
  refine W_seq ?_
  refine W_region ?_
  refine WL_val rfl rfl rfl (st_fieldAddr (off := 2) Tryd.underlying33 rfl rfl ti4 rfl) ?_
  refine WL_val rfl rfl rfl (st_load ⟨_, Tryd.underlying4, rfl⟩ rfl (hb3.cell 2 rfl)) ?_
  refine WL_nil ?_
  refine W_cond rfl (fun h11 => ?_) (fun h11 => ?_)
  · have g11 := h11
    refine W_region ?_
    refine WL_val rfl rfl rfl (st_load ⟨_, Tryd.underlying53, rfl⟩ rfl (hb2.cell 0 rfl)) ?_
    refine WL_call rfl rfl rfl (writeByte_ok bb _ _ 94 _ hB (by simp only [List.length_append, List.length_cons, List.length_nil]; omega)) (ent_go rfl) ?_
    rintro _ w17 ⟨rfl, g18, hB19, hst20⟩
    replace hs := hs.trans hst20
    replace hpr := hpr.step hB.gt hst20
    replace hb2 := hb2.step hst20
    replace hb3 := hb3.step hst20
    replace hB := hB19; clear hB19
    refine WL_nil ?_
    refine W_seq ?_
    refine W_seq ?_
    obtain ⟨bs1, hbs1⟩ : ∃ b, b = bs ++ 91 :: (if p.neg = true then [94] else []) := ⟨_, rfl⟩
    have hl1 : bs1.length + (p.ranges.flatMap rangeL).length + 1 ≤ 1099511627776 := by
      simp only [setL, List.length_append, List.length_cons, List.length_nil] at hl
      rw [hbs1]
      simp only [List.length_append, List.length_cons]
      omega
    replace hB : Bld w17 bb g18 bs1 := by rw [hbs1]; simpa [h11] using hB
    refine W_region ?_
    refine WL_val rfl rfl rfl (st_fieldAddr (off := 3) Tryd.underlying33 rfl rfl ti30 rfl) ?_
    refine WL_val rfl rfl rfl (st_load ⟨_, Tryd.underlying30, rfl⟩ rfl (hb3.cell 3 rfl)) ?_
    refine WL_val rfl rfl rfl (st_len Tryd.underlying30 rfl) ?_
    refine WL_val rfl rfl rfl (st_mv (v := (.int .i64 0)) rfl) ?_
    refine WL_nil ?_
    refine W_block ?_
    refine W_loop [17] [6, 17, 18, 19, 20, 21, 22, 23, 24, 25, 26, 27, 28, 29, 30, 31, 32, 33, 34, 35, 36, 37, 38, 39, 40, 41, 42] (fun m vs w1 => ∃ k g1 : Nat, k + m = p.ranges.length ∧ vs = [.int .i64 (k : Int)] ∧ Bld w1 bb g1 (bs1 ++ (p.ranges.take k).flatMap rangeL) ∧ BStep bb g18 g1 w17 w1) ?_ ?_
    · exact ⟨p.ranges.length, 0, _, by omega, rfl, by simpa using hB, BStep.refl _ _ _⟩
    · intro m vs w21 u hI
      obtain ⟨k, gk, hk, rfl, hB2, hst⟩ := hI
      have hs := hs.trans hst
      have hpr := hpr.step hB.gt hst
      have hb2 := hb2.step hst
      have hb3 := hb3.step hst
      clear hB
      have hB := hB2; clear hB2
      refine W_seq ?_
      refine W_region ?_
      refine WL_val rfl rfl rfl (st_lss rfl rfl) ?_
      refine WL_nil ?_
      refine W_seq ?_
      refine W_cond rfl (fun h18 => ?_) (fun h18 => ?_)
      · have g18 := of_decide_eq_true h18
        refine W_skip ?_
        refine W_seq ?_
        refine W_block ?_
        refine W_seq ?_
        have hk' : k < p.ranges.length := by omega
        obtain ⟨rb, ro, hD, hra, hrc⟩ := RangesAt.at hpr hk'
        have hlk := take_flat_le rangeL p.ranges (k + 1)
        rw [take_flat rangeL hk', List.length_append] at hlk
        have hrt := take_flat rangeL hk'
        generalize p.ranges[k] = r at hrc hlk hrt
        have hrlen := rangeL_len r
        refine W_region ?_
        refine WL_val rfl rfl rfl (st_indexAddr Tryd.underlying30 ti44 rfl hra rfl (by omega)) ?_
        refine WL_val rfl rfl rfl (st_loada ⟨_, Tryd.underlying44, rfl⟩ ti44 rfl hrc rfl) ?_
        refine WL_ef (ef_alloc ti44) rfl rfl rfl ?_
        rintro _ w23 ⟨b22, rfl, hl6, hb6, hx24⟩
        refine WL_su (su_storea ti44 rfl hb6 rfl rfl (Nat.le_of_ble_eq_true rfl) rfl) rfl rfl ?_
        rintro w25 ⟨hnb, hf26⟩
        have hx27 : Ext w21 w25 := hx24.trans_new hf26 (fun _ h => by subst h; exact hl6)
        clear hb6
        have hb6 : Blk _ _ _ [_, _] := hnb
        clear hnb
        replace hs := hs.ext hx27
        replace hst := hst.ext hx27
        replace hpr := hpr.ext hx27
        replace hb2 := hb2.ext hx27
        replace hb3 := hb3.ext hx27
        replace hB := hB.ext hx27
        obtain ⟨g28, hB30, hst29, hb6⟩ := hB.apt hb6 (by decide) (by decide)
        replace hs := hs.trans hst29
        replace hst := hst.trans hst29
        replace hpr := hpr.step hB.gt hst29
        replace hb2 := hb2.step hst29
        replace hb3 := hb3.step hst29
        replace hB := hB30; clear hB30
        refine WL_nil ?_
        refine W_seq ?_
        refine W_region ?_
        refine WL_val rfl rfl rfl (st_mv (v := .func _ _ _) rfl) ?_
        refine WL_val rfl rfl rfl (st_indexAddra (i := 0) Tryd.underlying44 ti3 rfl rfl (by omega)) ?_
        refine WL_val rfl rfl rfl (st_load ⟨_, Tryd.underlying3, rfl⟩ rfl (hb6.cell 0 rfl)) ?_
        refine WL_call rfl rfl rfl (bound_ok bb _ _ _ r.1 _ hB hb2 (by simp only [List.length_append]; omega)) (ent_val rfl rfl) ?_
        rintro _ w31 ⟨rfl, g32, hB33, hst34⟩
        replace hs := hs.trans hst34
        replace hst := hst.trans hst34
        replace hpr := hpr.step hB.gt hst34
        replace hb2 := hb2.step hst34
        replace hb3 := hb3.step hst34
        replace hb6 := hb6.step hst34
        replace hB := hB33; clear hB33
        refine WL_nil ?_
        refine W_seq ?_
        refine W_seq ?_
        refine W_region ?_
        refine WL_val rfl rfl rfl (st_indexAddra (i := 1) Tryd.underlying44 ti3 rfl rfl (by omega)) ?_
        refine WL_val rfl rfl rfl (st_load ⟨_, Tryd.underlying3, rfl⟩ rfl (hb6.cell 1 rfl)) ?_
        refine WL_val rfl rfl rfl (st_indexAddra (i := 0) Tryd.underlying44 ti3 rfl rfl (by omega)) ?_
        refine WL_val rfl rfl rfl (st_load ⟨_, Tryd.underlying3, rfl⟩ rfl (hb6.cell 0 rfl)) ?_
        refine WL_val rfl rfl rfl (st_addw rfl rfl) ?_
        refine WL_val rfl rfl rfl (st_gtr rfl rfl) ?_
        refine WL_nil ?_
        refine W_cond rfl (fun h30 => ?_) (fun h30 => ?_)
        · have g30 := of_decide_eq_true h30
          have hr1 : rangeL r = boundL r.1 ++ [45] ++ (if r.1 < r.2 then boundL r.2 else []) := by unfold rangeL; rw [if_pos g30]
          rw [if_pos g30] at hrlen
          refine W_region ?_
          refine WL_val rfl rfl rfl (st_load ⟨_, Tryd.underlying53, rfl⟩ rfl (hb2.cell 0 rfl)) ?_
          refine WL_call rfl rfl rfl (writeByte_ok bb _ _ 45 _ hB (by simp only [List.length_append] at *; omega)) (ent_go rfl) ?_
          rintro _ w35 ⟨rfl, g36, hB37, hst38⟩
          replace hs := hs.trans hst38
          replace hst := hst.trans hst38
          replace hpr := hpr.step hB.gt hst38
          replace hb2 := hb2.step hst38
          replace hb3 := hb3.step hst38
          replace hb6 := hb6.step hst38
          replace hB := hB37; clear hB37
          refine WL_nil ?_
          refine W_seq ?_
          refine W_region ?_
          refine WL_val rfl rfl rfl (st_indexAddra (i := 1) Tryd.underlying44 ti3 rfl rfl (by omega)) ?_
          refine WL_val rfl rfl rfl (st_load ⟨_, Tryd.underlying3, rfl⟩ rfl (hb6.cell 1 rfl)) ?_
          refine WL_val rfl rfl rfl (st_indexAddra (i := 0) Tryd.underlying44 ti3 rfl rfl (by omega)) ?_
          refine WL_val rfl rfl rfl (st_load ⟨_, Tryd.underlying3, rfl⟩ rfl (hb6.cell 0 rfl)) ?_
          refine WL_val rfl rfl rfl (st_gtr rfl rfl) ?_
          refine WL_nil ?_
          refine W_cond rfl (fun h37 => ?_) (fun h37 => ?_)
          · have g37 := of_decide_eq_true h37
            rw [if_pos g37] at hr1 hrlen
            have hrl := hr1
            refine W_region ?_
            refine WL_val rfl rfl rfl (st_mv (v := .func _ _ _) rfl) ?_
            refine WL_val rfl rfl rfl (st_indexAddra (i := 1) Tryd.underlying44 ti3 rfl rfl (by omega)) ?_
            refine WL_val rfl rfl rfl (st_load ⟨_, Tryd.underlying3, rfl⟩ rfl (hb6.cell 1 rfl)) ?_
            refine WL_call rfl rfl rfl (bound_ok bb _ _ _ r.2 _ hB hb2 (by simp only [List.length_append, List.length_cons, List.length_nil] at *; omega)) (ent_val rfl rfl) ?_
            rintro _ w39 ⟨rfl, g40, hB41, hst42⟩
            replace hs := hs.trans hst42
            replace hst := hst.trans hst42
            replace hpr := hpr.step hB.gt hst42
            replace hb2 := hb2.step hst42
            replace hb3 := hb3.step hst42
            replace hb6 := hb6.step hst42
            replace hB := hB41; clear hB41
            refine WL_nil ?_
            refine W_region ?_
            refine WL_val rfl rfl rfl (st_add rfl rfl (by omega) (by omega)) ?_
            refine WL_val rfl rfl rfl (st_mv (v := .int _ _) rfl) ?_
            refine WL_nil ?_
            refine rnd_end ?_ (m - 1) ?_ ?_
            · repeat (first | exact agree_in rfl rfl (agree_refl _ _) | exact agree_refl _ _ | refine agree_in rfl rfl ?_ | refine agree_upd rfl ?_)
            · omega
            · refine ⟨k + 1, _, by omega, vec1 rfl, ?_, hst⟩
              rw [hrt, hrl]
              simpa using hB
          · have g37 := of_decide_eq_false h37
            rw [if_neg g37] at hr1 hrlen
            have hrl := hr1
            refine W_skip ?_
            refine W_region ?_
            refine WL_val rfl rfl rfl (st_add rfl rfl (by omega) (by omega)) ?_
            refine WL_val rfl rfl rfl (st_mv (v := .int _ _) rfl) ?_
            refine WL_nil ?_
            refine rnd_end ?_ (m - 1) ?_ ?_
            · repeat (first | exact agree_in rfl rfl (agree_refl _ _) | exact agree_refl _ _ | refine agree_in rfl rfl ?_ | refine agree_upd rfl ?_)
            · omega
            · refine ⟨k + 1, _, by omega, vec1 rfl, ?_, hst⟩
              rw [hrt, hrl]
              simpa using hB
        · have g30 := of_decide_eq_false h30
          have hr1 : rangeL r = boundL r.1 ++ [] ++ (if r.1 < r.2 then boundL r.2 else []) := by unfold rangeL; rw [if_neg g30]
          refine W_skip ?_
          refine W_seq ?_
          refine W_region ?_
          refine WL_val rfl rfl rfl (st_indexAddra (i := 1) Tryd.underlying44 ti3 rfl rfl (by omega)) ?_
          refine WL_val rfl rfl rfl (st_load ⟨_, Tryd.underlying3, rfl⟩ rfl (hb6.cell 1 rfl)) ?_
          refine WL_val rfl rfl rfl (st_indexAddra (i := 0) Tryd.underlying44 ti3 rfl rfl (by omega)) ?_
          refine WL_val rfl rfl rfl (st_load ⟨_, Tryd.underlying3, rfl⟩ rfl (hb6.cell 0 rfl)) ?_
          refine WL_val rfl rfl rfl (st_gtr rfl rfl) ?_
          refine WL_nil ?_
          refine W_cond rfl (fun h37 => ?_) (fun h37 => ?_)
          · have g37 := of_decide_eq_true h37
            rw [if_pos g37] at hr1 hrlen
            have hrl := hr1
            refine W_region ?_
            refine WL_val rfl rfl rfl (st_mv (v := .func _ _ _) rfl) ?_
            refine WL_val rfl rfl rfl (st_indexAddra (i := 1) Tryd.underlying44 ti3 rfl rfl (by omega)) ?_
            refine WL_val rfl rfl rfl (st_load ⟨_, Tryd.underlying3, rfl⟩ rfl (hb6.cell 1 rfl)) ?_
            refine WL_call rfl rfl rfl (bound_ok bb _ _ _ r.2 _ hB hb2 (by simp only [List.length_append, List.length_cons, List.length_nil] at *; omega)) (ent_val rfl rfl) ?_
            rintro _ w43 ⟨rfl, g44, hB45, hst46⟩
            replace hs := hs.trans hst46
            replace hst := hst.trans hst46
            replace hpr := hpr.step hB.gt hst46
            replace hb2 := hb2.step hst46
            replace hb3 := hb3.step hst46
            replace hb6 := hb6.step hst46
            replace hB := hB45; clear hB45
            refine WL_nil ?_
            refine W_region ?_
            refine WL_val rfl rfl rfl (st_add rfl rfl (by omega) (by omega)) ?_
            refine WL_val rfl rfl rfl (st_mv (v := .int _ _) rfl) ?_
            refine WL_nil ?_
            refine rnd_end ?_ (m - 1) ?_ ?_
            · repeat (first | exact agree_in rfl rfl (agree_refl _ _) | exact agree_refl _ _ | refine agree_in rfl rfl ?_ | refine agree_upd rfl ?_)
            · omega
            · refine ⟨k + 1, _, by omega, vec1 rfl, ?_, hst⟩
              rw [hrt, hrl]
              simpa using hB
          · have g37 := of_decide_eq_false h37
            rw [if_neg g37] at hr1 hrlen
            have hrl := hr1
            refine W_skip ?_
            refine W_region ?_
            refine WL_val rfl rfl rfl (st_add rfl rfl (by omega) (by omega)) ?_
            refine WL_val rfl rfl rfl (st_mv (v := .int _ _) rfl) ?_
            refine WL_nil ?_
            refine rnd_end ?_ (m - 1) ?_ ?_
            · repeat (first | exact agree_in rfl rfl (agree_refl _ _) | exact agree_refl _ _ | refine agree_in rfl rfl ?_ | refine agree_upd rfl ?_)
            · omega
            · refine ⟨k + 1, _, by omega, vec1 rfl, ?_, hst⟩
              rw [hrt, hrl]
              simpa using hB
      · have g18 := of_decide_eq_false h18
        refine W_exit ?_
        rw [List.take_of_length_le (by omega)] at hB
        refine W_region ?_
        refine WL_val rfl rfl rfl (st_load ⟨_, Tryd.underlying53, rfl⟩ rfl (hb2.cell 0 rfl)) ?_
        refine WL_call rfl rfl rfl (writeByte_ok bb _ _ 93 _ hB (by simp only [List.length_append, List.length_cons, List.length_nil] at *; omega)) (ent_go rfl) ?_
        rintro _ w47 ⟨rfl, g48, hB49, hst50⟩
        replace hs := hs.trans hst50
        replace hst := hst.trans hst50
        replace hpr := hpr.step hB.gt hst50
        replace hb2 := hb2.step hst50
        replace hb3 := hb3.step hst50
        replace hB := hB49; clear hB49
        refine WL_nil ?_
        refine qr0 ?_
        refine ⟨rfl, _, ?_, hs⟩
        have e : bs ++ setL p = bs1 ++ p.ranges.flatMap rangeL ++ [93] := by rw [hbs1]; simp [setL]
        rw [e]
        exact hB
  · have g11 := h11
    refine W_skip ?_
    refine W_seq ?_
    refine W_seq ?_
    obtain ⟨bs1, hbs1⟩ : ∃ b, b = bs ++ 91 :: (if p.neg = true then [94] else []) := ⟨_, rfl⟩
    have hl1 : bs1.length + (p.ranges.flatMap rangeL).length + 1 ≤ 1099511627776 := by
      simp only [setL, List.length_append, List.length_cons, List.length_nil] at hl
      rw [hbs1]
      simp only [List.length_append, List.length_cons]
      omega
    replace hB : Bld w13 bb g14 bs1 := by rw [hbs1]; simpa [h11] using hB
    refine W_region ?_
    refine WL_val rfl rfl rfl (st_fieldAddr (off := 3) Tryd.underlying33 rfl rfl ti30 rfl) ?_
    refine WL_val rfl rfl rfl (st_load ⟨_, Tryd.underlying30, rfl⟩ rfl (hb3.cell 3 rfl)) ?_
    refine WL_val rfl rfl rfl (st_len Tryd.underlying30 rfl) ?_
    refine WL_val rfl rfl rfl (st_mv (v := (.int .i64 0)) rfl) ?_
    refine WL_nil ?_
    refine W_block ?_
    refine W_loop [17] [6, 17, 18, 19, 20, 21, 22, 23, 24, 25, 26, 27, 28, 29, 30, 31, 32, 33, 34, 35, 36, 37, 38, 39, 40, 41, 42] (fun m vs w1 => ∃ k g1 : Nat, k + m = p.ranges.length ∧ vs = [.int .i64 (k : Int)] ∧ Bld w1 bb g1 (bs1 ++ (p.ranges.take k).flatMap rangeL) ∧ BStep bb g14 g1 w13 w1) ?_ ?_
    · exact ⟨p.ranges.length, 0, _, by omega, rfl, by simpa using hB, BStep.refl _ _ _⟩
    · intro m vs w51 u hI
      obtain ⟨k, gk, hk, rfl, hB2, hst⟩ := hI
      have hs := hs.trans hst
      have hpr := hpr.step hB.gt hst
      have hb2 := hb2.step hst
      have hb3 := hb3.step hst
      clear hB
      have hB := hB2; clear hB2
      refine W_seq ?_
      refine W_region ?_
      refine WL_val rfl rfl rfl (st_lss rfl rfl) ?_
      refine WL_nil ?_
      refine W_seq ?_
      refine W_cond rfl (fun h18 => ?_) (fun h18 => ?_)
      · have g18 := of_decide_eq_true h18
        refine W_skip ?_
        refine W_seq ?_
        refine W_block ?_
        refine W_seq ?_
        have hk' : k < p.ranges.length := by omega
        obtain ⟨rb, ro, hD, hra, hrc⟩ := RangesAt.at hpr hk'
        have hlk := take_flat_le rangeL p.ranges (k + 1)
        rw [take_flat rangeL hk', List.length_append] at hlk
        have hrt := take_flat rangeL hk'
        generalize p.ranges[k] = r at hrc hlk hrt
        have hrlen := rangeL_len r
        refine W_region ?_
        refine WL_val rfl rfl rfl (st_indexAddr Tryd.underlying30 ti44 rfl hra rfl (by omega)) ?_
        refine WL_val rfl rfl rfl (st_loada ⟨_, Tryd.underlying44, rfl⟩ ti44 rfl hrc rfl) ?_
        refine WL_ef (ef_alloc ti44) rfl rfl rfl ?_
        rintro _ w53 ⟨b52, rfl, hl6, hb6, hx54⟩
        refine WL_su (su_storea ti44 rfl hb6 rfl rfl (Nat.le_of_ble_eq_true rfl) rfl) rfl rfl ?_
        rintro w55 ⟨hnb, hf56⟩
        have hx57 : Ext w51 w55 := hx54.trans_new hf56 (fun _ h => by subst h; exact hl6)
        clear hb6
        have hb6 : Blk _ _ _ [_, _] := hnb
        clear hnb
        replace hs := hs.ext hx57
        replace hst := hst.ext hx57
        replace hpr := hpr.ext hx57
        replace hb2 := hb2.ext hx57
        replace hb3 := hb3.ext hx57
        replace hB := hB.ext hx57
        obtain ⟨g58, hB60, hst59, hb6⟩ := hB.apt hb6 (by decide) (by decide)
        replace hs := hs.trans hst59
        replace hst := hst.trans hst59
        replace hpr := hpr.step hB.gt hst59
        replace hb2 := hb2.step hst59
        replace hb3 := hb3.step hst59
        replace hB := hB60; clear hB60
        refine WL_nil ?_
        refine W_seq ?_
        refine W_region ?_
        refine WL_val rfl rfl rfl (st_mv (v := .func _ _ _) rfl) ?_
        refine WL_val rfl rfl rfl (st_indexAddra (i := 0) Tryd.underlying44 ti3 rfl rfl (by omega)) ?_
        refine WL_val rfl rfl rfl (st_load ⟨_, Tryd.underlying3, rfl⟩ rfl (hb6.cell 0 rfl)) ?_
        refine WL_call rfl rfl rfl (bound_ok bb _ _ _ r.1 _ hB hb2 (by simp only [List.length_append]; omega)) (ent_val rfl rfl) ?_
        rintro _ w61 ⟨rfl, g62, hB63, hst64⟩
        replace hs := hs.trans hst64
        replace hst := hst.trans hst64
        replace hpr := hpr.step hB.gt hst64
        replace hb2 := hb2.step hst64
        replace hb3 := hb3.step hst64
        replace hb6 := hb6.step hst64
        replace hB := hB63; clear hB63
        refine WL_nil ?_
        refine W_seq ?_
        refine W_seq ?_
        refine W_region ?_
        refine WL_val rfl rfl rfl (st_indexAddra (i := 1) Tryd.underlying44 ti3 rfl rfl (by omega)) ?_
        refine WL_val rfl rfl rfl (st_load ⟨_, Tryd.underlying3, rfl⟩ rfl (hb6.cell 1 rfl)) ?_
        refine WL_val rfl rfl rfl (st_indexAddra (i := 0) Tryd.underlying44 ti3 rfl rfl (by omega)) ?_
        refine WL_val rfl rfl rfl (st_load ⟨_, Tryd.underlying3, rfl⟩ rfl (hb6.cell 0 rfl)) ?_
        refine WL_val rfl rfl rfl (st_addw rfl rfl) ?_
        refine WL_val rfl rfl rfl (st_gtr rfl rfl) ?_
        refine WL_nil ?_
        refine W_cond rfl (fun h30 => ?_) (fun h30 => ?_)
        · have g30 := of_decide_eq_true h30
          have hr1 : rangeL r = boundL r.1 ++ [45] ++ (if r.1 < r.2 then boundL r.2 else []) := by unfold rangeL; rw [if_pos g30]
          rw [if_pos g30] at hrlen
          refine W_region ?_
          refine WL_val rfl rfl rfl (st_load ⟨_, Tryd.underlying53, rfl⟩ rfl (hb2.cell 0 rfl)) ?_
          refine WL_call rfl rfl rfl (writeByte_ok bb _ _ 45 _ hB (by simp only [List.length_append] at *; omega)) (ent_go rfl) ?_
          rintro _ w65 ⟨rfl, g66, hB67, hst68⟩
          replace hs := hs.trans hst68
          replace hst := hst.trans hst68
          replace hpr := hpr.step hB.gt hst68
          replace hb2 := hb2.step hst68
          replace hb3 := hb3.step hst68
          replace hb6 := hb6.step hst68
          replace hB := hB67; clear hB67
          refine WL_nil ?_
          refine W_seq ?_
          refine W_region ?_
          refine WL_val rfl rfl rfl (st_indexAddra (i := 1) Tryd.underlying44 ti3 rfl rfl (by omega)) ?_
          refine WL_val rfl rfl rfl (st_load ⟨_, Tryd.underlying3, rfl⟩ rfl (hb6.cell 1 rfl)) ?_
          refine WL_val rfl rfl rfl (st_indexAddra (i := 0) Tryd.underlying44 ti3 rfl rfl (by omega)) ?_
          refine WL_val rfl rfl rfl (st_load ⟨_, Tryd.underlying3, rfl⟩ rfl (hb6.cell 0 rfl)) ?_
          refine WL_val rfl rfl rfl (st_gtr rfl rfl) ?_
          refine WL_nil ?_
          refine W_cond rfl (fun h37 => ?_) (fun h37 => ?_)
          · have g37 := of_decide_eq_true h37
            rw [if_pos g37] at hr1 hrlen
            have hrl := hr1
            refine W_region ?_
            refine WL_val rfl rfl rfl (st_mv (v := .func _ _ _) rfl) ?_
            refine WL_val rfl rfl rfl (st_indexAddra (i := 1) Tryd.underlying44 ti3 rfl rfl (by omega)) ?_
            refine WL_val rfl rfl rfl (st_load ⟨_, Tryd.underlying3, rfl⟩ rfl (hb6.cell 1 rfl)) ?_
            refine WL_call rfl rfl rfl (bound_ok bb _ _ _ r.2 _ hB hb2 (by simp only [List.length_append, List.length_cons, List.length_nil] at *; omega)) (ent_val rfl rfl) ?_
            rintro _ w69 ⟨rfl, g70, hB71, hst72⟩
            replace hs := hs.trans hst72
            replace hst := hst.trans hst72
            replace hpr := hpr.step hB.gt hst72
            replace hb2 := hb2.step hst72
            replace hb3 := hb3.step hst72
            replace hb6 := hb6.step hst72
            replace hB := hB71; clear hB71
            refine WL_nil ?_
            refine W_region ?_
            refine WL_val rfl rfl rfl (st_add rfl rfl (by omega) (by omega)) ?_
            refine WL_val rfl rfl rfl (st_mv (v := .int _ _) rfl) ?_
            refine WL_nil ?_
            refine rnd_end ?_ (m - 1) ?_ ?_
            · repeat (first | exact agree_in rfl rfl (agree_refl _ _) | exact agree_refl _ _ | refine agree_in rfl rfl ?_ | refine agree_upd rfl ?_)
            · omega
            · refine ⟨k + 1, _, by omega, vec1 rfl, ?_, hst⟩
              rw [hrt, hrl]
              simpa using hB
          · have g37 := of_decide_eq_false h37
            rw [if_neg g37] at hr1 hrlen
            have hrl := hr1
            refine W_skip ?_
            refine W_region ?_
            refine WL_val rfl rfl rfl (st_add rfl rfl (by omega) (by omega)) ?_
            refine WL_val rfl rfl rfl (st_mv (v := .int _ _) rfl) ?_
            refine WL_nil ?_
            refine rnd_end ?_ (m - 1) ?_ ?_
            · repeat (first | exact agree_in rfl rfl (agree_refl _ _) | exact agree_refl _ _ | refine agree_in rfl rfl ?_ | refine agree_upd rfl ?_)
            · omega
            · refine ⟨k + 1, _, by omega, vec1 rfl, ?_, hst⟩
              rw [hrt, hrl]
              simpa using hB
        · have g30 := of_decide_eq_false h30
          have hr1 : rangeL r = boundL r.1 ++ [] ++ (if r.1 < r.2 then boundL r.2 else []) := by unfold rangeL; rw [if_neg g30]
          refine W_skip ?_
          refine W_seq ?_
          refine W_region ?_
          refine WL_val rfl rfl rfl (st_indexAddra (i := 1) Tryd.underlying44 ti3 rfl rfl (by omega)) ?_
          refine WL_val rfl rfl rfl (st_load ⟨_, Tryd.underlying3, rfl⟩ rfl (hb6.cell 1 rfl)) ?_
          refine WL_val rfl rfl rfl (st_indexAddra (i := 0) Tryd.underlying44 ti3 rfl rfl (by omega)) ?_
          refine WL_val rfl rfl rfl (st_load ⟨_, Tryd.underlying3, rfl⟩ rfl (hb6.cell 0 rfl)) ?_
          refine WL_val rfl rfl rfl (st_gtr rfl rfl) ?_
          refine WL_nil ?_
          refine W_cond rfl (fun h37 => ?_) (fun h37 => ?_)
          · have g37 := of_decide_eq_true h37
            rw [if_pos g37] at hr1 hrlen
            have hrl := hr1
            refine W_region ?_
            refine WL_val rfl rfl rfl (st_mv (v := .func _ _ _) rfl) ?_
            refine WL_val rfl rfl rfl (st_indexAddra (i := 1) Tryd.underlying44 ti3 rfl rfl (by omega)) ?_
            refine WL_val rfl rfl rfl (st_load ⟨_, Tryd.underlying3, rfl⟩ rfl (hb6.cell 1 rfl)) ?_
            refine WL_call rfl rfl rfl (bound_ok bb _ _ _ r.2 _ hB hb2 (by simp only [List.length_append, List.length_cons, List.length_nil] at *; omega)) (ent_val rfl rfl) ?_
            rintro _ w73 ⟨rfl, g74, hB75, hst76⟩
            replace hs := hs.trans hst76
            replace hst := hst.trans hst76
            replace hpr := hpr.step hB.gt hst76
            replace hb2 := hb2.step hst76
            replace hb3 := hb3.step hst76
            replace hb6 := hb6.step hst76
            replace hB := hB75; clear hB75
            refine WL_nil ?_
            refine W_region ?_
            refine WL_val rfl rfl rfl (st_add rfl rfl (by omega) (by omega)) ?_
            refine WL_val rfl rfl rfl (st_mv (v := .int _ _) rfl) ?_
            refine WL_nil ?_
            refine rnd_end ?_ (m - 1) ?_ ?_
            · repeat (first | exact agree_in rfl rfl (agree_refl _ _) | exact agree_refl _ _ | refine agree_in rfl rfl ?_ | refine agree_upd rfl ?_)
            · omega
            · refine ⟨k + 1, _, by omega, vec1 rfl, ?_, hst⟩
              rw [hrt, hrl]
              simpa using hB
          · have g37 := of_decide_eq_false h37
            rw [if_neg g37] at hr1 hrlen
            have hrl := hr1
            refine W_skip ?_
            refine W_region ?_
            refine WL_val rfl rfl rfl (st_add rfl rfl (by omega) (by omega)) ?_
            refine WL_val rfl rfl rfl (st_mv (v := .int _ _) rfl) ?_
            refine WL_nil ?_
            refine rnd_end ?_ (m - 1) ?_ ?_
            · repeat (first | exact agree_in rfl rfl (agree_refl _ _) | exact agree_refl _ _ | refine agree_in rfl rfl ?_ | refine agree_upd rfl ?_)
            · omega
            · refine ⟨k + 1, _, by omega, vec1 rfl, ?_, hst⟩
              rw [hrt, hrl]
              simpa using hB
      · have g18 := of_decide_eq_false h18
        refine W_exit ?_
        rw [List.take_of_length_le (by omega)] at hB
        refine W_region ?_
        refine WL_val rfl rfl rfl (st_load ⟨_, Tryd.underlying53, rfl⟩ rfl (hb2.cell 0 rfl)) ?_
        refine WL_call rfl rfl rfl (writeByte_ok bb _ _ 93 _ hB (by simp only [List.length_append, List.length_cons, List.length_nil] at *; omega)) (ent_go rfl) ?_
        rintro _ w77 ⟨rfl, g78, hB79, hst80⟩
        replace hs := hs.trans hst80
        replace hst := hst.trans hst80
        replace hpr := hpr.step hB.gt hst80
        replace hb2 := hb2.step hst80
        replace hb3 := hb3.step hst80
        replace hB := hB79; clear hB79
        refine WL_nil ?_
        refine qr0 ?_
        refine ⟨rfl, _, ?_, hs⟩
        have e : bs ++ setL p = bs1 ++ p.ranges.flatMap rangeL ++ [93] := by rw [hbs1]; simp [setL]
        rw [e]
        exact hB
end Go.Proofs.YtndfhicdabdafaaDoor
