/- Walks of the methods of strings.Builder. -/
import Derived.Test.YtndfhicdabdafaaDoorB
namespace Go.Proofs.YtndfhicdabdafaaDoor
open Go Go.RowKit

theorem ext_noEscape (v : Value) (w : World) : (callFunc 71 #[v]).run Tryd.prog w = .ok (.value v) w := by
  have h := run_callFunc_extern (P := Tryd.prog) (e := Extern.AbiNoEscape.same) Tryd.func71 (by kernel_rfl) rfl (by kernel_rfl) (by kernel_rfl) #[v] w
  rw [h, Lib.run_noEscape]
  rfl
theorem info_B : ∃ j, Tryd.prog.info? 56 = some j ∧ j.size = 2 := by
  obtain ⟨i, h1, _, h2, _⟩ := ti56
  exact ⟨i, h1, h2⟩
theorem lies_B : liesAt Tryd.prog Tryd.prog.depth 56 (2 / Tryd.prog.cellsOf 56) 0 56 1 = true := by kernel_rfl
theorem cells_8 : Tryd.prog.cellsOf 5 = 1 := by kernel_rfl
theorem copyCheck_fresh (bb : Nat) (sv : Value) (w : World) (hb : Blk w bb 56 [.pointer none, sv]) :
    Fun Tryd.prog 54 [.pointer (some ⟨bb, 0, none⟩)] w (fun r w' => r = .tuple #[] ∧ Blk w' bb 56 [.pointer (some ⟨bb, 0, none⟩), sv] ∧ Fro (· = bb) w w') := by
  obtain ⟨j, hj, hjs⟩ := info_B
  have hsh : w.shape? bb = some (56, 2) := by
    unfold Blk at hb
    simp [World.shape?, hb]
  refine fun0 Tryd.func54 rfl (by kernel_rfl) rfl rfl rfl ?_
  refine W_seq ?_
  refine W_region ?_
  refine WL_val rfl rfl rfl (st_mv (v := .pointer _) rfl) ?_
  refine WL_val rfl rfl rfl (st_nilCheck rfl) ?_
  refine WL_val rfl rfl rfl (st_fieldAddr (off := 0) Tryd.underlying56 rfl rfl ti53 rfl) ?_
  refine WL_val rfl rfl rfl (st_load ⟨_, Tryd.underlying53, rfl⟩ rfl (hb.cell 0 rfl)) ?_
  refine WL_val rfl rfl rfl (st_eqlnil Tryd.underlying53 rfl rfl) ?_
  refine WL_nil ?_
  refine W_yes rfl ?_
  refine W_region ?_
  refine WL_val rfl rfl rfl (st_mv (v := .pointer _) rfl) ?_
  refine WL_val rfl rfl rfl (st_mv (v := .pointer _) rfl) ?_
  refine WL_val rfl rfl rfl (st_conv rfl (Lib.run_to_unsafe _ ⟨bb, 0, none⟩ Tryd.underlying53 Tryd.underlying113 hj (by rw [hjs]; decide) hsh (Nat.zero_lt_succ 1))) ?_
  refine WL_val rfl rfl rfl (st_ext rfl (ext_noEscape _ _)) ?_
  refine WL_val rfl rfl rfl (st_conv rfl (Lib.run_from_unsafe _ ⟨bb, 0, none⟩ Tryd.underlying113 Tryd.underlying53 hj hsh lies_B)) ?_
  refine WL_val rfl rfl rfl (st_nilCheck rfl) ?_
  refine WL_val rfl rfl rfl (st_fieldAddr (off := 0) Tryd.underlying56 rfl rfl ti53 rfl) ?_
  refine WL_su (su_store ti53 rfl hb (Nat.le_of_ble_eq_true rfl) rfl rfl) rfl rfl ?_
  rintro w1 ⟨hnb, hf2⟩
  have hb2 : Blk w1 bb 56 [.pointer (some ⟨bb, 0, none⟩), sv] := hnb
  refine WL_nil ?_
  refine qr0 ?_
  exact ⟨rfl, hb2, hf2⟩
theorem copyCheck_used (bb : Nat) (sv : Value) (w : World) (hb : Blk w bb 56 [.pointer (some ⟨bb, 0, none⟩), sv]) :
    Fun Tryd.prog 54 [.pointer (some ⟨bb, 0, none⟩)] w (fun r w' => r = .tuple #[] ∧ Blk w' bb 56 [.pointer (some ⟨bb, 0, none⟩), sv] ∧ Fro (· = bb) w w') := by
  obtain ⟨j, hj, hjs⟩ := info_B
  have hsh : w.shape? bb = some (56, 2) := by
    unfold Blk at hb
    simp [World.shape?, hb]
  refine fun0 Tryd.func54 rfl (by kernel_rfl) rfl rfl rfl ?_
  refine W_seq ?_
  refine W_region ?_
  refine WL_val rfl rfl rfl (st_mv (v := .pointer _) rfl) ?_
  refine WL_val rfl rfl rfl (st_nilCheck rfl) ?_
  refine WL_val rfl rfl rfl (st_fieldAddr (off := 0) Tryd.underlying56 rfl rfl ti53 rfl) ?_
  refine WL_val rfl rfl rfl (st_load ⟨_, Tryd.underlying53, rfl⟩ rfl (hb.cell 0 rfl)) ?_
  refine WL_val rfl rfl rfl (st_eqlnil Tryd.underlying53 rfl rfl) ?_
  refine WL_nil ?_
  refine W_no rfl ?_
  refine W_seq ?_
  refine W_region ?_
  refine WL_val rfl rfl rfl (st_mv (v := .pointer _) rfl) ?_
  refine WL_val rfl rfl rfl (st_nilCheck rfl) ?_
  refine WL_val rfl rfl rfl (st_fieldAddr (off := 0) Tryd.underlying56 rfl rfl ti53 rfl) ?_
  refine WL_val rfl rfl rfl (st_load ⟨_, Tryd.underlying53, rfl⟩ rfl (hb.cell 0 rfl)) ?_
  refine WL_val rfl rfl rfl (st_mv (v := .pointer _) rfl) ?_
  refine WL_val rfl rfl rfl (st_binr rfl rfl run_eqGuard_ptr (Lib.run_neq_ptr_same _ _ Tryd.underlying53 hj)) ?_
  refine WL_nil ?_
  refine W_no rfl ?_
  refine W_skip ?_
  refine qr0 ?_
  exact ⟨rfl, hb, Fro.refl _ _⟩
theorem copyCheck_ok (bb : Nat) (av sv : Value) (w : World) (hb : Blk w bb 56 [av, sv]) (hav : av = .pointer none ∨ av = .pointer (some ⟨bb, 0, none⟩)) :
    Fun Tryd.prog 54 [.pointer (some ⟨bb, 0, none⟩)] w (fun r w' => r = .tuple #[] ∧ Blk w' bb 56 [.pointer (some ⟨bb, 0, none⟩), sv] ∧ Fro (· = bb) w w') := by
  rcases hav with rfl | rfl
  · exact copyCheck_fresh bb sv w hb
  · exact copyCheck_used bb sv w hb

theorem writeByte_ok (bb g : Nat) (bs : List UInt8) (c : UInt8) (w : World) (h : Bld w bb g bs) (hl : bs.length ≤ 1099511627776) :
    Fun Tryd.prog 39 [.pointer (some ⟨bb, 0, none⟩), .int .u8 (c.toNat : Int)] w (fun r w' => r = .nilIface ∧ ∃ g', Bld w' bb g' (bs ++ [c]) ∧ BStep bb g g' w w') := by
  obtain ⟨av, sv, hbk, hav, hown, hemp, hbg⟩ := h
  have hne : g ≠ bb := by omega
  have hb0 := hbk
  obtain ⟨sa, sc, rfl, _⟩ := hown.form
  refine fun1 Tryd.func39 rfl (by kernel_rfl) rfl rfl rfl ?_
  refine W_seq ?_
  refine W_region ?_
  refine WL_val rfl rfl rfl (st_as (v := .nilIface) rfl) ?_
  refine WL_nil ?_
  refine W_seq ?_
  refine W_region ?_
  refine WL_val rfl rfl rfl (st_mv (v := .pointer _) rfl) ?_
  refine WL_call rfl rfl rfl (copyCheck_ok bb av _ _ hbk hav) (ent_go rfl) ?_
  rintro _ w1 ⟨rfl, hbk1, hf1⟩
  clear hbk
  have hbk := hbk1; clear hbk1
  have hown := hown.fro hf1 (fun h => hne h)
  refine WL_nil ?_
  refine W_seq ?_
  refine W_region ?_
  refine WL_val rfl rfl rfl (st_mv (v := .pointer _) rfl) ?_
  refine WL_val rfl rfl rfl (st_mv (v := .pointer _) rfl) ?_
  refine WL_val rfl rfl rfl (st_nilCheck rfl) ?_
  refine WL_val rfl rfl rfl (st_fieldAddr (off := 1) Tryd.underlying56 rfl rfl ti54 rfl) ?_
  refine WL_val rfl rfl rfl (st_load ⟨_, Tryd.underlying54, rfl⟩ rfl (hbk.cell 1 rfl)) ?_
  refine WL_val rfl rfl rfl (st_mv (v := .int _ _) rfl) ?_
  refine WL_ef (ef_buildSlice (len := 1) (cs := [byteV c]) Tryd.underlying54 ti5 (by decide) (by decide) rfl) rfl rfl rfl ?_
  rintro _ w2 ⟨gn, rfl, hgn, hbn, hx2⟩
  have hbk := hbk.ext hx2
  have hown := hown.ext hx2
  refine WL_ef (ef_append (news := [byteV c]) Tryd.underlying54 Tryd.underlying54 isSl_slice ti5 rfl rfl hown rfl (src_slice (by rfl) (.inr ⟨gn, 0, rfl, hbn.cells⟩) (fun h => by cases h)) rfl rfl (by omega) (by omega)) rfl rfl rfl ?_
  rintro v' w3 ⟨g', hown', hf3, hg', hnil⟩
  have hsz1 := hf1.size
  have hbk := hbk.fro hf3 (fun h => hne h.symm)
  obtain ⟨a', cap', rfl, hpos⟩ := hown'.form
  refine WL_val rfl rfl rfl (st_nilCheck rfl) ?_
  refine WL_val rfl rfl rfl (st_fieldAddr (off := 1) Tryd.underlying56 rfl rfl ti54 rfl) ?_
  refine WL_su (su_store ti54 rfl hbk (Nat.le_of_ble_eq_true rfl) rfl rfl) rfl rfl ?_
  rintro w3 ⟨hnb, hf4⟩
  have hbg' : bb < g' := by rcases hg' with e | e; omega; have := hbk.lt; have := hf1.size; have hlt := hb0.lt; have := hx2.size; omega
  refine WL_nil ?_
  refine W_seq ?_
  refine W_region ?_
  refine WL_val rfl rfl rfl (st_as (v := .nilIface) rfl) ?_
  refine WL_nil ?_
  refine W_ret ?_
  refine qr1 ?_
  have hst : Fro (fun k => k = bb ∨ k = g) w w3 := by
    refine ((hf1.trans' hx2 (fun _ _ h => .inl h) (fun _ _ h => h.elim)).trans' hf3 (fun _ _ h => h) (fun _ _ h => .inr h)).trans' hf4 (fun _ _ h => h) (fun _ _ h => .inl h)
  have hszx := hx2.size
  refine ⟨rfl, g', ⟨_, _, hnb, .inr rfl, ?_, ?_, hbg'⟩, hst, ?_⟩
  · have h4 := hown'.fro hf4 (fun h => by omega)
    rw [List.map_append]
    have e1 : (bs ++ [c]).length = bs.length + 1 := by simp
    rw [e1]
    exact h4
  · intro h
    exact absurd h (by simp)
  · rcases hg' with e | e
    · exact .inl e
    · exact .inr (by omega)
theorem writeString_ok (bb g : Nat) (bs : List UInt8) (s : ByteArray) (w : World) (h : Bld w bb g bs) (hl : bs.length + s.size ≤ 1099511627776) :
    Fun Tryd.prog 40 [.pointer (some ⟨bb, 0, none⟩), .string s] w (fun r w' => r = .tuple #[.int .i64 s.size, .nilIface] ∧ ∃ g', Bld w' bb g' (bs ++ byts s) ∧ BStep bb g g' w w') := by
  obtain ⟨av, sv, hbk, hav, hown, hemp, hbg⟩ := h
  have hne : g ≠ bb := by omega
  have hb0 := hbk
  obtain ⟨sa, sc, rfl, _⟩ := hown.form
  refine fun2 Tryd.func40 rfl (by kernel_rfl) rfl rfl rfl ?_
  refine W_seq ?_
  refine W_region ?_
  refine WL_val rfl rfl rfl (st_as (v := (.int .i64 0)) rfl) ?_
  refine WL_val rfl rfl rfl (st_as (v := .nilIface) rfl) ?_
  refine WL_nil ?_
  refine W_seq ?_
  refine W_region ?_
  refine WL_val rfl rfl rfl (st_mv (v := .pointer _) rfl) ?_
  refine WL_call rfl rfl rfl (copyCheck_ok bb av _ _ hbk hav) (ent_go rfl) ?_
  rintro _ w1 ⟨rfl, hbk1, hf1⟩
  clear hbk
  have hbk := hbk1; clear hbk1
  have hown := hown.fro hf1 (fun h => hne h)
  refine WL_nil ?_
  refine W_seq ?_
  refine W_region ?_
  refine WL_val rfl rfl rfl (st_mv (v := .pointer _) rfl) ?_
  refine WL_val rfl rfl rfl (st_mv (v := .pointer _) rfl) ?_
  refine WL_val rfl rfl rfl (st_nilCheck rfl) ?_
  refine WL_val rfl rfl rfl (st_fieldAddr (off := 1) Tryd.underlying56 rfl rfl ti54 rfl) ?_
  refine WL_val rfl rfl rfl (st_load ⟨_, Tryd.underlying54, rfl⟩ rfl (hbk.cell 1 rfl)) ?_
  refine WL_val rfl rfl rfl (st_mv (v := .string _) rfl) ?_
  refine WL_ef (ef_append (news := (byts s).map byteV) Tryd.underlying54 Tryd.underlying9 isSl_string ti5 rfl rfl hown rfl (src_string rfl) (byteV_len s) (byteV_one _) (by omega) (by omega)) rfl rfl rfl ?_
  rintro v' w3 ⟨g', hown', hf3, hg', hnil⟩
  have hsz1 := hf1.size
  have hbk := hbk.fro hf3 (fun h => hne h.symm)
  obtain ⟨a', cap', rfl, hpos⟩ := hown'.form
  refine WL_val rfl rfl rfl (st_nilCheck rfl) ?_
  refine WL_val rfl rfl rfl (st_fieldAddr (off := 1) Tryd.underlying56 rfl rfl ti54 rfl) ?_
  refine WL_su (su_store ti54 rfl hbk (Nat.le_of_ble_eq_true rfl) rfl rfl) rfl rfl ?_
  rintro w3 ⟨hnb, hf4⟩
  have hbg' : bb < g' := by rcases hg' with e | e; omega; have := hbk.lt; have := hf1.size; have hlt := hb0.lt; omega
  refine WL_nil ?_
  refine W_seq ?_
  refine W_region ?_
  refine WL_val rfl rfl rfl (st_mv (v := .string _) rfl) ?_
  refine WL_val rfl rfl rfl (st_lens Tryd.underlying9 rfl) ?_
  refine WL_val rfl rfl rfl (st_as (v := .int _ _) rfl) ?_
  refine WL_val rfl rfl rfl (st_as (v := .nilIface) rfl) ?_
  refine WL_nil ?_
  refine W_ret ?_
  refine qr2 ?_
  have hst : Fro (fun k => k = bb ∨ k = g) w w3 := by
    refine (hf1.trans' hf3 (fun _ _ h => .inl h) (fun _ _ h => .inr h)).trans' hf4 (fun _ _ h => h) (fun _ _ h => .inl h)
  have e1 : (bs ++ byts s).length = bs.length + s.size := by simp [byts]
  refine ⟨rfl, g', ⟨_, _, hnb, .inr rfl, ?_, ?_, hbg'⟩, hst, ?_⟩
  · have h4 := hown'.fro hf4 (fun h => by omega)
    rw [List.map_append, e1]
    exact h4
  · intro h
    have h0 : bs = [] ∧ byts s = [] := by simpa using h
    have hs0 : s.size = 0 := by have := congrArg List.length h0.2; simpa [byts] using this
    refine hnil (hemp h0.1) ?_
    rw [h0.1, hs0]; rfl
  · rcases hg' with e | e
    · exact .inl e
    · exact .inr (by omega)
theorem string_nil (bb g : Nat) (_u : Unit) (av : Value) (w : World) (hbk : Blk w bb 56 [av, .slice none 0 0]) (hbg : bb < g) :
    Fun Tryd.prog 26 [.pointer (some ⟨bb, 0, none⟩)] w (fun r w' => r = .string ⟨([] : List UInt8).toArray⟩ ∧ BldR w' bb g [] ∧ Fro (· = g) w w') := by
  have hx0 := Ext.refl w
  have hne : g ≠ bb := by omega
  refine fun1 Tryd.func26 rfl (by kernel_rfl) rfl rfl rfl ?_
  refine W_seq ?_
  refine W_region ?_
  refine WL_val rfl rfl rfl (st_as (v := (.string ⟨#[]⟩)) rfl) ?_
  refine WL_nil ?_
  refine W_seq ?_
  refine W_tailx 10 mixed (by kernel_rfl) ?_
  intro w1 hx2 hh3
  replace hbk := hbk.ext hx2
  replace hx0 := hx0.ext hx2
  refine WS_val rfl rfl rfl (st_mv (v := .pointer _) rfl) ?_
  refine WS_val rfl rfl rfl (st_nilCheck rfl) ?_
  refine WS_val rfl rfl rfl (st_fieldAddr (off := 1) Tryd.underlying56 rfl rfl ti54 rfl) ?_
  refine WS_val rfl rfl rfl (st_load ⟨_, Tryd.underlying54, rfl⟩ rfl (hbk.cell 1 rfl)) ?_
  refine WS_val rfl rfl rfl (st_unsafeSliceData rfl (Lib.run_unsafeSliceData_nil _ _ _ _ _)) ?_
  refine WS_val rfl rfl rfl (st_mv (v := .pointer _) rfl) ?_
  refine WS_val rfl rfl rfl (st_nilCheck rfl) ?_
  refine WS_val rfl rfl rfl (st_fieldAddr (off := 1) Tryd.underlying56 rfl rfl ti54 rfl) ?_
  refine WS_val rfl rfl rfl (st_load ⟨_, Tryd.underlying54, rfl⟩ rfl (hbk.cell 1 rfl)) ?_
  refine WS_val rfl rfl rfl (st_len Tryd.underlying54 rfl) ?_
  refine WS_nil ?_
  refine WL_val rfl rfl rfl (st_unsafeString rfl rfl (Lib.run_unsafeString_none _ _ _ _ _)) ?_
  refine WL_val rfl rfl rfl (st_as (v := .string _) rfl) ?_
  refine WL_nil ?_
  refine W_ret ?_
  refine qr1 ?_
  exact ⟨rfl, ⟨av, _, hbk, .inl ⟨rfl, rfl⟩, hbg⟩, hx0.fro⟩
theorem string_some (bb g : Nat) (bs : List UInt8) (cap : Nat) (junk : List Value) (fz : Nat × Nat) (av : Value) (w : World) (hbk : Blk w bb 56 [av, .slice (some ⟨g, 0, none⟩) bs.length cap]) (hg : w.heap[g]? = some (.cells (bs.map byteV ++ junk).toArray 5 fz)) (hpos : 0 < bs.length) (hcap : bs.length ≤ cap) (hl : bs.length ≤ 1099511627776) (hbg : bb < g) :
    Fun Tryd.prog 26 [.pointer (some ⟨bb, 0, none⟩)] w (fun r w' => r = .string ⟨bs.toArray⟩ ∧ BldR w' bb g bs ∧ Fro (· = g) w w') := by
  have hx0 := Ext.refl w
  have hne : g ≠ bb := by omega
  refine fun1 Tryd.func26 rfl (by kernel_rfl) rfl rfl rfl ?_
  refine W_seq ?_
  refine W_region ?_
  refine WL_val rfl rfl rfl (st_as (v := (.string ⟨#[]⟩)) rfl) ?_
  refine WL_nil ?_
  refine W_seq ?_
  refine W_tailx 10 mixed (by kernel_rfl) ?_
  intro w1 hx2 hh3
  replace hbk := hbk.ext hx2
  replace hx0 := hx0.ext hx2
  refine WS_val rfl rfl rfl (st_mv (v := .pointer _) rfl) ?_
  refine WS_val rfl rfl rfl (st_nilCheck rfl) ?_
  refine WS_val rfl rfl rfl (st_fieldAddr (off := 1) Tryd.underlying56 rfl rfl ti54 rfl) ?_
  refine WS_val rfl rfl rfl (st_load ⟨_, Tryd.underlying54, rfl⟩ rfl (hbk.cell 1 rfl)) ?_
  refine WS_val rfl rfl rfl (st_unsafeSliceData rfl (Lib.run_unsafeSliceData_row _ _ _ _ _ _ (by omega))) ?_
  refine WS_val rfl rfl rfl (st_mv (v := .pointer _) rfl) ?_
  refine WS_val rfl rfl rfl (st_nilCheck rfl) ?_
  refine WS_val rfl rfl rfl (st_fieldAddr (off := 1) Tryd.underlying56 rfl rfl ti54 rfl) ?_
  refine WS_val rfl rfl rfl (st_load ⟨_, Tryd.underlying54, rfl⟩ rfl (hbk.cell 1 rfl)) ?_
  refine WS_val rfl rfl rfl (st_len Tryd.underlying54 rfl) ?_
  refine WS_nil ?_
  have hg1 : w1.heap[g]? = some (.cells (bs.map byteV ++ junk).toArray 5 fz) := by rw [hh3]; exact hg
  refine WL_val rfl rfl rfl (st_unsafeString rfl rfl (Lib.run_unsafeString_row _ _ _ _ 5 Tryd.underlying80 cells_8 g (bs.map byteV ++ junk).length (by simp [World.shape?, hg1]) bs (List.length_pos_iff.1 hpos) (by simp) (by omega) (fun j x hj => by
    rw [add_at, Nat.zero_add]
    have hlt := (List.getElem?_eq_some_iff.1 hj).1
    simp only [World.cell?, hg1, List.getElem?_toArray]
    rw [List.getElem?_append_left (by simpa using hlt), List.getElem?_map, hj]
    rfl))) ?_
  refine WL_val rfl rfl rfl (st_as (v := .string _) rfl) ?_
  refine WL_nil ?_
  refine W_ret ?_
  refine qr1 ?_
  have hff := freeze_fro w1 g bs.length
  obtain ⟨fz', hfz⟩ := freeze_cells (n := bs.length) hg1
  exact ⟨rfl, ⟨av, _, hbk.fro hff (fun h => hne h.symm), .inr ⟨cap, junk, fz', rfl, hfz, hpos, hcap⟩, hbg⟩, hx0.fro.trans hff⟩
theorem string_ok (bb g : Nat) (bs : List UInt8) (w : World) (h : BldR w bb g bs) (hl : bs.length ≤ 1099511627776) :
    Fun Tryd.prog 26 [.pointer (some ⟨bb, 0, none⟩)] w (fun r w' => r = .string ⟨bs.toArray⟩ ∧ BldR w' bb g bs ∧ Fro (· = g) w w') := by
  obtain ⟨av, sv, hbk, h2, hbg⟩ := h
  rcases h2 with ⟨rfl, rfl⟩ | ⟨cap, junk, fz, rfl, hg, hpos, hcap⟩
  · exact string_nil bb g () av w hbk hbg
  · exact string_some bb g bs cap junk fz av w hbk hg hpos hcap hl hbg

end Go.Proofs.YtndfhicdabdafaaDoor
