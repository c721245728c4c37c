/- Walks of HasPrefix, HasSuffix, globText, CheckGlob. -/
import Derived.Test.YtndfhicdabdafaaDoorC7
import Derived.Test.YtndfhicdabdafaaDoorC4
import Derived.Test.YtndfhicdabdafaaDoorC3
import Derived.Test.YtndfhicdabdafaaDoorC2
import Derived.Test.YtndfhicdabdafaaDoorC1
namespace Go.Proofs.YtndfhicdabdafaaDoor
open Go Go.RowKit

def preB (s t : ByteArray) : Bool := decide (t.size ≤ s.size) && decide (s.extract 0 t.size = t)
def sufB (s t : ByteArray) : Bool := decide (t.size ≤ s.size) && decide (s.extract (s.size - t.size) s.size = t)

theorem lite_pre_ok (s t : ByteArray) (w : World) (hs : s.size ≤ 1099511627776) (ht : t.size ≤ 1099511627776) : Fun Tryd.prog 43 [.string s, .string t] w (fun r w' => r = .bool (preB s t) ∧ w = w') := by
  refine fun1 Tryd.func43 rfl (by kernel_rfl) rfl rfl rfl ?_
  refine W_seq ?_
  refine W_region ?_
  refine WL_val rfl rfl rfl (st_as (v := (.bool false)) rfl) ?_
  refine WL_nil ?_
  refine W_seq ?_
  refine W_region ?_
  refine WL_val rfl rfl rfl (st_mv (v := .string _) rfl) ?_
  refine WL_val rfl rfl rfl (st_lens Tryd.underlying9 rfl) ?_
  refine WL_val rfl rfl rfl (st_mv (v := .string _) rfl) ?_
  refine WL_val rfl rfl rfl (st_lens Tryd.underlying9 rfl) ?_
  refine WL_val rfl rfl rfl (st_geq rfl rfl) ?_
  refine WL_val rfl rfl rfl (st_mv (v := .bool _) rfl) ?_
  refine WL_split 10 rfl (fun h10 => ?_) (fun h10 => ?_)
  · have g10 := of_decide_eq_true h10
    refine WL_valg rfl rfl rfl (congrArg Value.bool h10) rfl rfl (st_mv (v := .string _) rfl) ?_
    refine WL_valg rfl rfl rfl (congrArg Value.bool h10) rfl rfl (st_mv (v := .string _) rfl) ?_
    refine WL_valg rfl rfl rfl (congrArg Value.bool h10) rfl rfl (st_lens Tryd.underlying9 rfl) ?_
    refine WL_valg rfl rfl rfl (congrArg Value.bool h10) rfl rfl (st_slices (a := 0) (b := t.size) Tryd.underlying9 rfl (.inl ⟨rfl, rfl⟩) (.inr rfl) (by omega) (by omega)) ?_
    refine WL_valg rfl rfl rfl (congrArg Value.bool h10) rfl rfl (st_mv (v := .string _) rfl) ?_
    refine WL_valg rfl rfl rfl (congrArg Value.bool h10) rfl rfl (st_eqls rfl rfl) ?_
    refine WL_val rfl rfl rfl (st_pk_t (v := .bool _) (congrArg Value.bool h10) rfl) ?_
    refine WL_val rfl rfl rfl (st_as (v := .bool _) rfl) ?_
    refine WL_nil ?_
    refine W_ret ?_
    refine qr1 ?_
    exact ⟨vbool (by unfold preB; rw [decide_eq_true (show t.size ≤ s.size by omega), Bool.true_and]), rfl⟩
  · have g10 := of_decide_eq_false h10
    refine WL_pass rfl rfl rfl (congrArg Value.bool h10) rfl rfl ?_
    refine WL_pass rfl rfl rfl (congrArg Value.bool h10) rfl rfl ?_
    refine WL_pass rfl rfl rfl (congrArg Value.bool h10) rfl rfl ?_
    refine WL_pass rfl rfl rfl (congrArg Value.bool h10) rfl rfl ?_
    refine WL_pass rfl rfl rfl (congrArg Value.bool h10) rfl rfl ?_
    refine WL_pass rfl rfl rfl (congrArg Value.bool h10) rfl rfl ?_
    refine WL_val rfl rfl rfl (st_pk_f (v := (.bool false)) (congrArg Value.bool h10) rfl) ?_
    refine WL_val rfl rfl rfl (st_as (v := .bool _) rfl) ?_
    refine WL_nil ?_
    refine W_ret ?_
    refine qr1 ?_
    exact ⟨vbool (by unfold preB; rw [decide_eq_false (show ¬ t.size ≤ s.size by omega), Bool.false_and]), rfl⟩
theorem str_pre_ok (s t : ByteArray) (w : World) (hs : s.size ≤ 1099511627776) (ht : t.size ≤ 1099511627776) : Fun Tryd.prog 28 [.string s, .string t] w (fun r w' => r = .bool (preB s t) ∧ w = w') := by
  refine fun1 Tryd.func28 rfl (by kernel_rfl) rfl rfl rfl ?_
  refine W_seq ?_
  refine W_region ?_
  refine WL_val rfl rfl rfl (st_as (v := (.bool false)) rfl) ?_
  refine WL_nil ?_
  refine W_seq ?_
  refine W_region ?_
  refine WL_val rfl rfl rfl (st_mv (v := .string _) rfl) ?_
  refine WL_val rfl rfl rfl (st_mv (v := .string _) rfl) ?_
  refine WL_call rfl rfl rfl (lite_pre_ok s t _ hs ht) (ent_go rfl) ?_
  rintro _ w1 ⟨rfl, rfl⟩
  refine WL_val rfl rfl rfl (st_as (v := .bool _) rfl) ?_
  refine WL_nil ?_
  refine W_ret ?_
  refine qr1 ?_
  exact ⟨rfl, rfl⟩
theorem lite_suf_ok (s t : ByteArray) (w : World) (hs : s.size ≤ 1099511627776) (ht : t.size ≤ 1099511627776) : Fun Tryd.prog 42 [.string s, .string t] w (fun r w' => r = .bool (sufB s t) ∧ w = w') := by
  refine fun1 Tryd.func42 rfl (by kernel_rfl) rfl rfl rfl ?_
  refine W_seq ?_
  refine W_region ?_
  refine WL_val rfl rfl rfl (st_as (v := (.bool false)) rfl) ?_
  refine WL_nil ?_
  refine W_seq ?_
  refine W_region ?_
  refine WL_val rfl rfl rfl (st_mv (v := .string _) rfl) ?_
  refine WL_val rfl rfl rfl (st_lens Tryd.underlying9 rfl) ?_
  refine WL_val rfl rfl rfl (st_mv (v := .string _) rfl) ?_
  refine WL_val rfl rfl rfl (st_lens Tryd.underlying9 rfl) ?_
  refine WL_val rfl rfl rfl (st_geq rfl rfl) ?_
  refine WL_val rfl rfl rfl (st_mv (v := .bool _) rfl) ?_
  refine WL_split 10 rfl (fun h10 => ?_) (fun h10 => ?_)
  · have g10 := of_decide_eq_true h10
    refine WL_valg rfl rfl rfl (congrArg Value.bool h10) rfl rfl (st_mv (v := .string _) rfl) ?_
    refine WL_valg rfl rfl rfl (congrArg Value.bool h10) rfl rfl (st_mv (v := .string _) rfl) ?_
    refine WL_valg rfl rfl rfl (congrArg Value.bool h10) rfl rfl (st_lens Tryd.underlying9 rfl) ?_
    refine WL_valg rfl rfl rfl (congrArg Value.bool h10) rfl rfl (st_mv (v := .string _) rfl) ?_
    refine WL_valg rfl rfl rfl (congrArg Value.bool h10) rfl rfl (st_lens Tryd.underlying9 rfl) ?_
    refine WL_valg rfl rfl rfl (congrArg Value.bool h10) rfl rfl (st_sub rfl rfl (by omega) (by omega)) ?_
    refine WL_valg rfl rfl rfl (congrArg Value.bool h10) rfl rfl (st_slices (a := s.size - t.size) (b := s.size) Tryd.underlying9 rfl (.inr (congrArg some (by exact vint (by omega)))) (.inl ⟨rfl, rfl⟩) (by omega) (by omega)) ?_
    refine WL_valg rfl rfl rfl (congrArg Value.bool h10) rfl rfl (st_mv (v := .string _) rfl) ?_
    refine WL_valg rfl rfl rfl (congrArg Value.bool h10) rfl rfl (st_eqls rfl rfl) ?_
    refine WL_val rfl rfl rfl (st_pk_t (v := .bool _) (congrArg Value.bool h10) rfl) ?_
    refine WL_val rfl rfl rfl (st_as (v := .bool _) rfl) ?_
    refine WL_nil ?_
    refine W_ret ?_
    refine qr1 ?_
    exact ⟨vbool (by unfold sufB; rw [decide_eq_true (show t.size ≤ s.size by omega), Bool.true_and]), rfl⟩
  · have g10 := of_decide_eq_false h10
    refine WL_pass rfl rfl rfl (congrArg Value.bool h10) rfl rfl ?_
    refine WL_pass rfl rfl rfl (congrArg Value.bool h10) rfl rfl ?_
    refine WL_pass rfl rfl rfl (congrArg Value.bool h10) rfl rfl ?_
    refine WL_pass rfl rfl rfl (congrArg Value.bool h10) rfl rfl ?_
    refine WL_pass rfl rfl rfl (congrArg Value.bool h10) rfl rfl ?_
    refine WL_pass rfl rfl rfl (congrArg Value.bool h10) rfl rfl ?_
    refine WL_pass rfl rfl rfl (congrArg Value.bool h10) rfl rfl ?_
    refine WL_pass rfl rfl rfl (congrArg Value.bool h10) rfl rfl ?_
    refine WL_pass rfl rfl rfl (congrArg Value.bool h10) rfl rfl ?_
    refine WL_val rfl rfl rfl (st_pk_f (v := (.bool false)) (congrArg Value.bool h10) rfl) ?_
    refine WL_val rfl rfl rfl (st_as (v := .bool _) rfl) ?_
    refine WL_nil ?_
    refine W_ret ?_
    refine qr1 ?_
    exact ⟨vbool (by unfold sufB; rw [decide_eq_false (show ¬ t.size ≤ s.size by omega), Bool.false_and]), rfl⟩
theorem str_suf_ok (s t : ByteArray) (w : World) (hs : s.size ≤ 1099511627776) (ht : t.size ≤ 1099511627776) : Fun Tryd.prog 27 [.string s, .string t] w (fun r w' => r = .bool (sufB s t) ∧ w = w') := by
  refine fun1 Tryd.func27 rfl (by kernel_rfl) rfl rfl rfl ?_
  refine W_seq ?_
  refine W_region ?_
  refine WL_val rfl rfl rfl (st_as (v := (.bool false)) rfl) ?_
  refine WL_nil ?_
  refine W_seq ?_
  refine W_region ?_
  refine WL_val rfl rfl rfl (st_mv (v := .string _) rfl) ?_
  refine WL_val rfl rfl rfl (st_mv (v := .string _) rfl) ?_
  refine WL_call rfl rfl rfl (lite_suf_ok s t _ hs ht) (ent_go rfl) ?_
  rintro _ w1 ⟨rfl, rfl⟩
  refine WL_val rfl rfl rfl (st_as (v := .bool _) rfl) ?_
  refine WL_nil ?_
  refine W_ret ?_
  refine qr1 ?_
  exact ⟨rfl, rfl⟩
theorem byts_ext {s t : ByteArray} (h : byts s = byts t) : s = t := by
  rcases s with ⟨⟨s⟩⟩
  rcases t with ⟨⟨t⟩⟩
  rw [show s = t from h]
theorem preB_one (s : ByteArray) (c : UInt8) : preB s ⟨#[c]⟩ = decide ((byts s).head? = some c) := by
  rcases s with ⟨⟨l⟩⟩
  cases l with
  | nil => rfl
  | cons a l =>
    have h1 : (ByteArray.extract ⟨⟨a :: l⟩⟩ 0 1) = ⟨#[a]⟩ := byts_ext (by simp)
    have h2 : (byts ⟨⟨a :: l⟩⟩).head? = some a := rfl
    rw [h2]
    unfold preB
    rw [show (ByteArray.size ⟨#[c]⟩) = 1 from rfl, h1, decide_eq_true (show 1 ≤ ByteArray.size ⟨⟨a :: l⟩⟩ from Nat.succ_le_succ (Nat.zero_le _)), Bool.true_and]
    simp
theorem sufB_one (s : ByteArray) (c : UInt8) : sufB s ⟨#[c]⟩ = decide ((byts s).getLast? = some c) := by
  rcases s with ⟨⟨l⟩⟩
  rcases List.eq_nil_or_concat l with rfl | ⟨l, a, rfl⟩
  · rfl
  · rw [List.concat_eq_append]
    have hsz : ByteArray.size ⟨⟨l ++ [a]⟩⟩ = l.length + 1 := by simp [ByteArray.size]
    have h1 : (ByteArray.extract ⟨⟨l ++ [a]⟩⟩ (l.length + 1 - 1) (l.length + 1)) = ⟨#[a]⟩ := byts_ext (by simp)
    unfold sufB
    rw [show (ByteArray.size ⟨#[c]⟩) = 1 from rfl, hsz, h1, decide_eq_true (by omega), Bool.true_and]
    have h2 : (byts ⟨⟨l ++ [a]⟩⟩).getLast? = some a := by simp [byts]
    rw [h2]
    simp

def L1 (dr : Bool) (ps : List Part) : List UInt8 := if !dr && lastSlash ps then (printL false ps).dropLast ++ [92, 47] else printL false ps
def L2 (rt : Bool) (l : List UInt8) : List UInt8 := if !rt && decide (l.head? = some 47) then 92 :: l else l
def L3 (rt : Bool) (l : List UInt8) : List UInt8 := if rt then 47 :: l else l
def L4 (dr : Bool) (l : List UInt8) : List UInt8 := if dr then l ++ [47] else l
theorem globL_eq (rt dr : Bool) (ps : List Part) : globL ⟨rt, dr, ps⟩ = L4 dr (L3 rt (L2 rt (L1 dr ps))) := rfl
theorem mk_size (l : List UInt8) : ByteArray.size ⟨l.toArray⟩ = l.length := by simp [ByteArray.size]
theorem L1_size {dr : Bool} {ps : List Part} {s : ByteArray} (hl : (printL false ps).length ≤ 1000000000) (h : byts s = L1 dr ps) : s.size ≤ 1000000002 := by
  have h1 := congrArg List.length h
  rw [byts_length] at h1
  rw [h1]
  unfold L1
  split
  · simp; omega
  · omega
theorem L2_size {rt dr : Bool} {ps : List Part} {s : ByteArray} (hl : (printL false ps).length ≤ 1000000000) (h : byts s = L2 rt (L1 dr ps)) : s.size ≤ 1000000003 := by
  have h1 := congrArg List.length h
  have h2 := L1_size (s := ⟨(L1 dr ps).toArray⟩) hl rfl
  rw [mk_size] at h2
  rw [byts_length] at h1
  rw [h1]
  unfold L2
  split
  · simp; omega
  · omega
theorem L3_size {rt dr : Bool} {ps : List Part} {s : ByteArray} (hl : (printL false ps).length ≤ 1000000000) (h : byts s = L3 rt (L2 rt (L1 dr ps))) : s.size ≤ 1000000004 := by
  have h1 := congrArg List.length h
  have h2 := L2_size (s := ⟨(L2 rt (L1 dr ps)).toArray⟩) hl rfl
  rw [mk_size] at h2
  rw [byts_length] at h1
  rw [h1]
  unfold L3
  split
  · simp; omega
  · omega
theorem printL_mem_le (within : Bool) {p : Part} : ∀ {ps : List Part}, p ∈ ps → (p.print within).length ≤ (printL within ps).length
  | q :: ps, h => by
    simp only [printL, List.length_append]
    rcases List.mem_cons.1 h with rfl | h
    · omega
    · have := printL_mem_le within h; omega
theorem globText_ok (rt dr : Bool) (ps : List Part) (n : Nat) (v : Value) (w : World) (hn : n ≤ w.heap.size) (hps : PartsAt (· < n) w v ps) (hne : 0 < ps.length) (hl : (printL false ps).length ≤ 1000000000) (htx : ∀ p ∈ ps, p.text.size ≤ 1099511627776) :
    Fun Tryd.prog 15 [.agg #[.bool rt, .bool dr, v]] w (fun r w' => r = .string ⟨(globL ⟨rt, dr, ps⟩).toArray⟩ ∧ Ext w w') := by
  obtain ⟨a, cp, rfl, hpl⟩ := hps.form
  have hx0 := Ext.refl w
  refine fun1 Tryd.func15 rfl (by kernel_rfl) rfl rfl rfl ?_
  refine W_seq ?_
  refine W_region ?_
  refine WL_ef (ef_box (cs := [_, _, _]) rfl) rfl rfl rfl ?_
  rintro _ w2 ⟨b1, rfl, hl1, hb1, hx3⟩
  replace hx0 := hx0.ext hx3
  replace hps := hps.ext hx3
  refine WL_val rfl rfl rfl (st_as (v := (.string ⟨#[]⟩)) rfl) ?_
  refine WL_nil ?_
  refine W_seq ?_
  refine W_region ?_
  refine WL_ef (ef_alloc ti56) rfl rfl rfl ?_
  rintro _ wB ⟨bb, rfl, hlb, hbb, hxB⟩
  have hsz0 := hx0.size
  have hlt1 := hb1.lt
  have hszB := hxB.size
  have hB : Bld wB bb wB.heap.size [] := ⟨_, _, hbb, .inl rfl, ⟨by simp, .inl ⟨rfl, rfl⟩⟩, fun _ => rfl, hbb.lt⟩
  clear hbb
  refine WL_nil ?_
  refine W_seq ?_
  replace hb1 := hb1.ext hxB
  replace hps := hps.ext hxB
  replace hx0 := hx0.ext hxB
  refine W_region ?_
  refine WL_val rfl rfl rfl (st_fieldAddr (off := 2) Tryd.underlying24 rfl rfl ti22 rfl) ?_
  refine WL_val rfl rfl rfl (st_load ⟨_, Tryd.underlying22, rfl⟩ rfl (hb1.cell 2 rfl)) ?_
  refine WL_call rfl rfl rfl (printParts_ok _ ps (Nat.lt_succ_self _) bb _ [] false _ _ hB (hps.mono (fun k hk => by omega)) (by simp only [List.length_nil]; omega)) (ent_go rfl) ?_
  rintro _ w4 ⟨rfl, g1, hB1, hst1⟩
  clear hB
  have hbg := hB1.gt
  have hx0 : Ext w w4 := hx0.trans' hst1.1 (fun _ _ f => f) (fun k hk e => by omega)
  have hb1 := hb1.fro hst1.1 (fun e => by omega)
  have hps := hps.fro hst1.1 (fun k hk e => by omega)
  rw [List.nil_append] at hB1
  refine WL_nil ?_
  refine W_seq ?_
  refine W_region ?_
  refine WL_call rfl rfl rfl (string_ok bb g1 _ _ hB1.r (by omega)) (ent_go rfl) ?_
  rintro _ w6 ⟨rfl, _, hst2⟩
  have hx0 : Ext w w6 := hx0.trans' hst2 (fun _ _ f => f) (fun k hk e => by have e' : k = g1 := e; omega)
  have hb1 := hb1.fro hst2 (fun e => by have e' : _ = g1 := e; omega)
  have hps := hps.fro hst2 (fun k hk e => by have e' : k = g1 := e; omega)
  refine WL_val rfl rfl rfl (st_as (v := .string _) rfl) ?_
  refine WL_nil ?_
  refine W_seq ?_
  have hk1 : ps.length - 1 < ps.length := by omega
  obtain ⟨pb, po, rv, wv, hpD, hpa, hpc, hpr, hpw⟩ := hps.at hk1
  have hls : lastSlash ps = (isTextP ps[ps.length - 1] && decide ((byts ps[ps.length - 1].text).getLast? = some 47)) := by
    unfold lastSlash
    rw [List.getLast?_eq_getElem?, List.getElem?_eq_getElem hk1]
  have hmem : ps[ps.length - 1] ∈ ps := List.getElem_mem hk1
  generalize ps[ps.length - 1] = p at hpc hpr hpw hls hmem
  obtain ⟨wa, wcp, rfl, hwl⟩ := hpw.form
  obtain ⟨ra, rcp, rfl, hrl⟩ := hpr.form
  refine W_region ?_
  refine WL_val rfl rfl rfl (st_fieldAddr (off := 2) Tryd.underlying24 rfl rfl ti22 rfl) ?_
  refine WL_val rfl rfl rfl (st_load ⟨_, Tryd.underlying22, rfl⟩ rfl (hb1.cell 2 rfl)) ?_
  refine WL_val rfl rfl rfl (st_fieldAddr (off := 2) Tryd.underlying24 rfl rfl ti22 rfl) ?_
  refine WL_val rfl rfl rfl (st_load ⟨_, Tryd.underlying22, rfl⟩ rfl (hb1.cell 2 rfl)) ?_
  refine WL_val rfl rfl rfl (st_len Tryd.underlying22 rfl) ?_
  refine WL_val rfl rfl rfl (st_sub rfl rfl (by omega) (by omega)) ?_
  refine WL_val rfl rfl rfl (st_indexAddr (i := ps.length - 1) Tryd.underlying22 ti33 rfl hpa (by exact vint (by omega)) (by omega)) ?_
  refine WL_val rfl rfl rfl (st_loada ⟨_, Tryd.underlying33, rfl⟩ ti33 rfl hpc rfl) ?_
  refine WL_ef (ef_alloc ti33) rfl rfl rfl ?_
  rintro _ w9 ⟨b8, rfl, hl5, hb5, hx10⟩
  refine WL_su (su_storea ti33 rfl hb5 rfl rfl (Nat.le_of_ble_eq_true rfl) rfl) rfl rfl ?_
  rintro w11 ⟨hnb, hf12⟩
  have hx13 : Ext w6 w11 := hx10.trans_new hf12 (fun _ h => by subst h; exact hl5)
  clear hb5
  have hb5 : Blk _ _ _ [_, _, _, _, _] := hnb
  clear hnb
  replace hx0 := hx0.ext hx13
  replace hps := hps.ext hx13
  replace hb1 := hb1.ext hx13
  refine WL_nil ?_
  refine W_seq ?_
  refine W_seq ?_
  refine W_region ?_
  refine WL_val rfl rfl rfl (st_fieldAddr (off := 1) Tryd.underlying24 rfl rfl ti4 rfl) ?_
  refine WL_val rfl rfl rfl (st_load ⟨_, Tryd.underlying4, rfl⟩ rfl (hb1.cell 1 rfl)) ?_
  refine WL_val rfl rfl rfl (st_not rfl) ?_
  refine WL_val rfl rfl rfl (st_mv (v := .bool _) rfl) ?_
  refine WL_split 21 rfl (fun h21 => ?_) (fun h21 => ?_)
  · have g21 := h21
    refine WL_valg rfl rfl rfl (congrArg Value.bool h21) rfl rfl (st_fieldAddr (off := 0) Tryd.underlying33 rfl rfl ti3 rfl) ?_
    refine WL_valg rfl rfl rfl (congrArg Value.bool h21) rfl rfl (st_load ⟨_, Tryd.underlying3, rfl⟩ rfl (hb5.cell 0 rfl)) ?_
    refine WL_valg rfl rfl rfl (congrArg Value.bool h21) rfl rfl (st_eql rfl rfl) ?_
    refine WL_val rfl rfl rfl (st_pk_t (v := .bool _) (congrArg Value.bool h21) rfl) ?_
    refine WL_val rfl rfl rfl (st_mv (v := .bool _) rfl) ?_
    refine WL_split 26 rfl (fun h26 => ?_) (fun h26 => ?_)
    · have g26 := of_decide_eq_true h26
      refine WL_valg rfl rfl rfl (congrArg Value.bool h26) rfl rfl (st_fieldAddr (off := 1) Tryd.underlying33 rfl rfl ti9 rfl) ?_
      refine WL_valg rfl rfl rfl (congrArg Value.bool h26) rfl rfl (st_load ⟨_, Tryd.underlying9, rfl⟩ rfl (hb5.cell 1 rfl)) ?_
      refine WL_callg rfl rfl rfl (congrArg Value.bool h26) rfl rfl (str_suf_ok p.text ⟨#[47]⟩ _ (htx p hmem) (by decide)) (ent_go rfl) ?_
      rintro _ w14 ⟨rfl, rfl⟩
      refine WL_val rfl rfl rfl (st_pk_t (v := .bool _) (congrArg Value.bool h26) rfl) ?_
      refine WL_nil ?_
      refine W_cond rfl (fun h30 => ?_) (fun h30 => ?_)
      · rw [sufB_one] at h30
        have g30 := of_decide_eq_true h30
        have hpos : 1 ≤ (printL false ps).length := by
          have h1 := printL_mem_le false hmem
          rw [p.print_eq, if_pos (of_decide_eq_true h26)] at h1
          have h2 := escL_ge (someL false) (byts p.text)
          have h3 : 0 < (byts p.text).length := by cases hq : byts p.text with | nil => (rw [hq] at g30; cases g30) | cons a l => simp
          omega
        refine W_region ?_
        refine WL_val rfl rfl rfl (st_mv (v := .string _) rfl) ?_
        refine WL_val rfl rfl rfl (st_mv (v := .string _) rfl) ?_
        refine WL_val rfl rfl rfl (st_lens Tryd.underlying9 rfl) ?_
        refine WL_val rfl rfl rfl (st_sub rfl rfl (by rw [mk_size]; omega) (by rw [mk_size]; omega)) ?_
        refine WL_val rfl rfl rfl (st_slices (a := 0) (b := (printL false ps).length - 1) Tryd.underlying9 rfl (.inl ⟨rfl, rfl⟩) (.inr (congrArg some (by exact vint (by rw [mk_size]; omega)))) (by omega) (by rw [mk_size]; omega)) ?_
        refine WL_val rfl rfl rfl (st_adds rfl rfl (by rw [ByteArray.size_extract, mk_size]; show _ + 2 ≤ _; omega)) ?_
        refine WL_val rfl rfl rfl (st_as (v := .string _) rfl) ?_
        refine WL_nil ?_
        refine W_seq ?_
        refine W_seq ?_
        obtain ⟨s1, hs1⟩ : ∃ s, s = (ByteArray.extract ⟨(printL false ps).toArray⟩ 0 ((printL false ps).length - 1) ++ ⟨#[92, 47]⟩) := ⟨_, rfl⟩
        rw [← hs1]
        have e1 : byts s1 = L1 dr ps := by
          rw [hs1]
          unfold L1
          have hsl : (!dr && lastSlash ps) = true := by rw [hls, h21, Bool.true_and]; unfold isTextP; rw [h26, Bool.true_and, decide_eq_true g30]
          rw [if_pos hsl]
          simp [byts, List.dropLast_eq_take]
        clear hs1
        refine W_region ?_
        refine WL_val rfl rfl rfl (st_fieldAddr (off := 0) Tryd.underlying24 rfl rfl ti4 rfl) ?_
        refine WL_val rfl rfl rfl (st_load ⟨_, Tryd.underlying4, rfl⟩ rfl (hb1.cell 0 rfl)) ?_
        refine WL_val rfl rfl rfl (st_not rfl) ?_
        refine WL_val rfl rfl rfl (st_mv (v := .bool _) rfl) ?_
        refine WL_split 40 rfl (fun h40 => ?_) (fun h40 => ?_)
        · have g40 := h40
          refine WL_valg rfl rfl rfl (congrArg Value.bool h40) rfl rfl (st_mv (v := .string _) rfl) ?_
          refine WL_callg rfl rfl rfl (congrArg Value.bool h40) rfl rfl (str_pre_ok s1 ⟨#[47]⟩ _ (Nat.le_trans (L1_size hl e1) (by decide)) (by decide)) (ent_go rfl) ?_
          rintro _ w16 ⟨rfl, rfl⟩
          refine WL_val rfl rfl rfl (st_pk_t (v := .bool _) (congrArg Value.bool h40) rfl) ?_
          refine WL_nil ?_
          refine W_cond rfl (fun h43 => ?_) (fun h43 => ?_)
          · have g43 := h43
            refine W_region ?_
            refine WL_val rfl rfl rfl (st_mv (v := .string _) rfl) ?_
            refine WL_val rfl rfl rfl (st_adds rfl rfl (by have := L1_size hl e1; show 1 + _ ≤ _; omega)) ?_
            refine WL_val rfl rfl rfl (st_as (v := .string _) rfl) ?_
            refine WL_nil ?_
            refine W_seq ?_
            refine W_seq ?_
            obtain ⟨s2, hs2⟩ : ∃ s, s = (⟨#[92]⟩ ++ s1 : ByteArray) := ⟨_, rfl⟩
            rw [← hs2]
            rw [preB_one, e1] at h43
            have e2 : byts s2 = L2 rt (L1 dr ps) := by
              rw [hs2]
              unfold L2
              rw [if_pos (by rw [h40, h43]; rfl)]
              simp [byts] at e1 ⊢
              exact e1
            clear hs2
            refine W_region ?_
            refine WL_val rfl rfl rfl (st_fieldAddr (off := 0) Tryd.underlying24 rfl rfl ti4 rfl) ?_
            refine WL_val rfl rfl rfl (st_load ⟨_, Tryd.underlying4, rfl⟩ rfl (hb1.cell 0 rfl)) ?_
            refine WL_nil ?_
            refine W_cond rfl (fun h47 => ?_) (fun h47 => ?_)
            · have g47 := h47
              refine W_region ?_
              refine WL_val rfl rfl rfl (st_mv (v := .string _) rfl) ?_
              refine WL_val rfl rfl rfl (st_adds rfl rfl (by have := L2_size hl e2; show 1 + _ ≤ _; omega)) ?_
              refine WL_val rfl rfl rfl (st_as (v := .string _) rfl) ?_
              refine WL_nil ?_
              refine W_seq ?_
              refine W_seq ?_
              obtain ⟨s3, hs3⟩ : ∃ s, s = (⟨#[47]⟩ ++ s2 : ByteArray) := ⟨_, rfl⟩
              rw [← hs3]
              have e3 : byts s3 = L3 rt (L2 rt (L1 dr ps)) := by
                rw [hs3]
                unfold L3
                rw [if_pos h47]
                simp [byts] at e2 ⊢
                exact e2
              clear hs3
              refine W_region ?_
              refine WL_val rfl rfl rfl (st_fieldAddr (off := 1) Tryd.underlying24 rfl rfl ti4 rfl) ?_
              refine WL_val rfl rfl rfl (st_load ⟨_, Tryd.underlying4, rfl⟩ rfl (hb1.cell 1 rfl)) ?_
              refine WL_nil ?_
              refine W_cond rfl (fun h51 => ?_) (fun h51 => ?_)
              · have g51 := h51
                refine W_region ?_
                refine WL_val rfl rfl rfl (st_mv (v := .string _) rfl) ?_
                refine WL_val rfl rfl rfl (st_adds rfl rfl (by have := L3_size hl e3; show _ + 1 ≤ _; omega)) ?_
                refine WL_val rfl rfl rfl (st_as (v := .string _) rfl) ?_
                refine WL_nil ?_
                refine W_seq ?_
                refine W_region ?_
                refine WL_val rfl rfl rfl (st_mv (v := .string _) rfl) ?_
                refine WL_val rfl rfl rfl (st_as (v := .string _) rfl) ?_
                refine WL_nil ?_
                refine W_ret ?_
                refine qr1 ?_
                refine ⟨vstr (byts_ext ?_), hx0⟩
                show _ = globL ⟨rt, dr, ps⟩
                rw [globL_eq]
                unfold L4
                rw [if_pos h51]
                simp [byts] at e3 ⊢
                exact e3
              · have g51 := h51
                refine W_skip ?_
                refine W_seq ?_
                refine W_region ?_
                refine WL_val rfl rfl rfl (st_mv (v := .string _) rfl) ?_
                refine WL_val rfl rfl rfl (st_as (v := .string _) rfl) ?_
                refine WL_nil ?_
                refine W_ret ?_
                refine qr1 ?_
                refine ⟨vstr (byts_ext ?_), hx0⟩
                show _ = globL ⟨rt, dr, ps⟩
                rw [globL_eq]
                unfold L4
                rw [if_neg (by rw [show dr = false from h51]; simp)]
                exact e3
            · have g47 := h47
              refine W_skip ?_
              refine W_seq ?_
              refine W_seq ?_
              have e3 : byts s2 = L3 rt (L2 rt (L1 dr ps)) := by
                unfold L3
                rw [if_neg (by rw [show rt = false from h47]; simp)]
                exact e2
              generalize s2 = s3 at e3
              refine W_region ?_
              refine WL_val rfl rfl rfl (st_fieldAddr (off := 1) Tryd.underlying24 rfl rfl ti4 rfl) ?_
              refine WL_val rfl rfl rfl (st_load ⟨_, Tryd.underlying4, rfl⟩ rfl (hb1.cell 1 rfl)) ?_
              refine WL_nil ?_
              refine W_cond rfl (fun h51 => ?_) (fun h51 => ?_)
              · have g51 := h51
                refine W_region ?_
                refine WL_val rfl rfl rfl (st_mv (v := .string _) rfl) ?_
                refine WL_val rfl rfl rfl (st_adds rfl rfl (by have := L3_size hl e3; show _ + 1 ≤ _; omega)) ?_
                refine WL_val rfl rfl rfl (st_as (v := .string _) rfl) ?_
                refine WL_nil ?_
                refine W_seq ?_
                refine W_region ?_
                refine WL_val rfl rfl rfl (st_mv (v := .string _) rfl) ?_
                refine WL_val rfl rfl rfl (st_as (v := .string _) rfl) ?_
                refine WL_nil ?_
                refine W_ret ?_
                refine qr1 ?_
                refine ⟨vstr (byts_ext ?_), hx0⟩
                show _ = globL ⟨rt, dr, ps⟩
                rw [globL_eq]
                unfold L4
                rw [if_pos h51]
                simp [byts] at e3 ⊢
                exact e3
              · have g51 := h51
                refine W_skip ?_
                refine W_seq ?_
                refine W_region ?_
                refine WL_val rfl rfl rfl (st_mv (v := .string _) rfl) ?_
                refine WL_val rfl rfl rfl (st_as (v := .string _) rfl) ?_
                refine WL_nil ?_
                refine W_ret ?_
                refine qr1 ?_
                refine ⟨vstr (byts_ext ?_), hx0⟩
                show _ = globL ⟨rt, dr, ps⟩
                rw [globL_eq]
                unfold L4
                rw [if_neg (by rw [show dr = false from h51]; simp)]
                exact e3
          · have g43 := h43
            refine W_skip ?_
            refine W_seq ?_
            refine W_seq ?_
            rw [preB_one, e1] at h43
            have e2 : byts s1 = L2 rt (L1 dr ps) := by
              unfold L2
              rw [if_neg (by rw [h43]; simp)]
              exact e1
            generalize s1 = s2 at e2
            refine W_region ?_
            refine WL_val rfl rfl rfl (st_fieldAddr (off := 0) Tryd.underlying24 rfl rfl ti4 rfl) ?_
            refine WL_val rfl rfl rfl (st_load ⟨_, Tryd.underlying4, rfl⟩ rfl (hb1.cell 0 rfl)) ?_
            refine WL_nil ?_
            refine W_cond rfl (fun h47 => ?_) (fun h47 => ?_)
            · have g47 := h47
              refine W_region ?_
              refine WL_val rfl rfl rfl (st_mv (v := .string _) rfl) ?_
              refine WL_val rfl rfl rfl (st_adds rfl rfl (by have := L2_size hl e2; show 1 + _ ≤ _; omega)) ?_
              refine WL_val rfl rfl rfl (st_as (v := .string _) rfl) ?_
              refine WL_nil ?_
              refine W_seq ?_
              refine W_seq ?_
              obtain ⟨s3, hs3⟩ : ∃ s, s = (⟨#[47]⟩ ++ s2 : ByteArray) := ⟨_, rfl⟩
              rw [← hs3]
              have e3 : byts s3 = L3 rt (L2 rt (L1 dr ps)) := by
                rw [hs3]
                unfold L3
                rw [if_pos h47]
                simp [byts] at e2 ⊢
                exact e2
              clear hs3
              refine W_region ?_
              refine WL_val rfl rfl rfl (st_fieldAddr (off := 1) Tryd.underlying24 rfl rfl ti4 rfl) ?_
              refine WL_val rfl rfl rfl (st_load ⟨_, Tryd.underlying4, rfl⟩ rfl (hb1.cell 1 rfl)) ?_
              refine WL_nil ?_
              refine W_cond rfl (fun h51 => ?_) (fun h51 => ?_)
              · have g51 := h51
                refine W_region ?_
                refine WL_val rfl rfl rfl (st_mv (v := .string _) rfl) ?_
                refine WL_val rfl rfl rfl (st_adds rfl rfl (by have := L3_size hl e3; show _ + 1 ≤ _; omega)) ?_
                refine WL_val rfl rfl rfl (st_as (v := .string _) rfl) ?_
                refine WL_nil ?_
                refine W_seq ?_
                refine W_region ?_
                refine WL_val rfl rfl rfl (st_mv (v := .string _) rfl) ?_
                refine WL_val rfl rfl rfl (st_as (v := .string _) rfl) ?_
                refine WL_nil ?_
                refine W_ret ?_
                refine qr1 ?_
                refine ⟨vstr (byts_ext ?_), hx0⟩
                show _ = globL ⟨rt, dr, ps⟩
                rw [globL_eq]
                unfold L4
                rw [if_pos h51]
                simp [byts] at e3 ⊢
                exact e3
              · have g51 := h51
                refine W_skip ?_
                refine W_seq ?_
                refine W_region ?_
                refine WL_val rfl rfl rfl (st_mv (v := .string _) rfl) ?_
                refine WL_val rfl rfl rfl (st_as (v := .string _) rfl) ?_
                refine WL_nil ?_
                refine W_ret ?_
                refine qr1 ?_
                refine ⟨vstr (byts_ext ?_), hx0⟩
                show _ = globL ⟨rt, dr, ps⟩
                rw [globL_eq]
                unfold L4
                rw [if_neg (by rw [show dr = false from h51]; simp)]
                exact e3
            · have g47 := h47
              refine W_skip ?_
              refine W_seq ?_
              refine W_seq ?_
              have e3 : byts s2 = L3 rt (L2 rt (L1 dr ps)) := by
                unfold L3
                rw [if_neg (by rw [show rt = false from h47]; simp)]
                exact e2
              generalize s2 = s3 at e3
              refine W_region ?_
              refine WL_val rfl rfl rfl (st_fieldAddr (off := 1) Tryd.underlying24 rfl rfl ti4 rfl) ?_
              refine WL_val rfl rfl rfl (st_load ⟨_, Tryd.underlying4, rfl⟩ rfl (hb1.cell 1 rfl)) ?_
              refine WL_nil ?_
              refine W_cond rfl (fun h51 => ?_) (fun h51 => ?_)
              · have g51 := h51
                refine W_region ?_
                refine WL_val rfl rfl rfl (st_mv (v := .string _) rfl) ?_
                refine WL_val rfl rfl rfl (st_adds rfl rfl (by have := L3_size hl e3; show _ + 1 ≤ _; omega)) ?_
                refine WL_val rfl rfl rfl (st_as (v := .string _) rfl) ?_
                refine WL_nil ?_
                refine W_seq ?_
                refine W_region ?_
                refine WL_val rfl rfl rfl (st_mv (v := .string _) rfl) ?_
                refine WL_val rfl rfl rfl (st_as (v := .string _) rfl) ?_
                refine WL_nil ?_
                refine W_ret ?_
                refine qr1 ?_
                refine ⟨vstr (byts_ext ?_), hx0⟩
                show _ = globL ⟨rt, dr, ps⟩
                rw [globL_eq]
                unfold L4
                rw [if_pos h51]
                simp [byts] at e3 ⊢
                exact e3
              · have g51 := h51
                refine W_skip ?_
                refine W_seq ?_
                refine W_region ?_
                refine WL_val rfl rfl rfl (st_mv (v := .string _) rfl) ?_
                refine WL_val rfl rfl rfl (st_as (v := .string _) rfl) ?_
                refine WL_nil ?_
                refine W_ret ?_
                refine qr1 ?_
                refine ⟨vstr (byts_ext ?_), hx0⟩
                show _ = globL ⟨rt, dr, ps⟩
                rw [globL_eq]
                unfold L4
                rw [if_neg (by rw [show dr = false from h51]; simp)]
                exact e3
        · have g40 := h40
          refine WL_pass rfl rfl rfl (congrArg Value.bool h40) rfl rfl ?_
          refine WL_pass rfl rfl rfl (congrArg Value.bool h40) rfl rfl ?_
          refine WL_val rfl rfl rfl (st_pk_f (v := (.bool false)) (congrArg Value.bool h40) rfl) ?_
          refine WL_nil ?_
          refine W_no rfl ?_
          refine W_skip ?_
          refine W_seq ?_
          refine W_seq ?_
          have e2 : byts s1 = L2 rt (L1 dr ps) := by
            unfold L2
            rw [if_neg (by rw [h40]; simp)]
            exact e1
          generalize s1 = s2 at e2
          refine W_region ?_
          refine WL_val rfl rfl rfl (st_fieldAddr (off := 0) Tryd.underlying24 rfl rfl ti4 rfl) ?_
          refine WL_val rfl rfl rfl (st_load ⟨_, Tryd.underlying4, rfl⟩ rfl (hb1.cell 0 rfl)) ?_
          refine WL_nil ?_
          refine W_cond rfl (fun h47 => ?_) (fun h47 => ?_)
          · have g47 := h47
            refine W_region ?_
            refine WL_val rfl rfl rfl (st_mv (v := .string _) rfl) ?_
            refine WL_val rfl rfl rfl (st_adds rfl rfl (by have := L2_size hl e2; show 1 + _ ≤ _; omega)) ?_
            refine WL_val rfl rfl rfl (st_as (v := .string _) rfl) ?_
            refine WL_nil ?_
            refine W_seq ?_
            refine W_seq ?_
            obtain ⟨s3, hs3⟩ : ∃ s, s = (⟨#[47]⟩ ++ s2 : ByteArray) := ⟨_, rfl⟩
            rw [← hs3]
            have e3 : byts s3 = L3 rt (L2 rt (L1 dr ps)) := by
              rw [hs3]
              unfold L3
              rw [if_pos h47]
              simp [byts] at e2 ⊢
              exact e2
            clear hs3
            refine W_region ?_
            refine WL_val rfl rfl rfl (st_fieldAddr (off := 1) Tryd.underlying24 rfl rfl ti4 rfl) ?_
            refine WL_val rfl rfl rfl (st_load ⟨_, Tryd.underlying4, rfl⟩ rfl (hb1.cell 1 rfl)) ?_
            refine WL_nil ?_
            refine W_cond rfl (fun h51 => ?_) (fun h51 => ?_)
            · have g51 := h51
              refine W_region ?_
              refine WL_val rfl rfl rfl (st_mv (v := .string _) rfl) ?_
              refine WL_val rfl rfl rfl (st_adds rfl rfl (by have := L3_size hl e3; show _ + 1 ≤ _; omega)) ?_
              refine WL_val rfl rfl rfl (st_as (v := .string _) rfl) ?_
              refine WL_nil ?_
              refine W_seq ?_
              refine W_region ?_
              refine WL_val rfl rfl rfl (st_mv (v := .string _) rfl) ?_
              refine WL_val rfl rfl rfl (st_as (v := .string _) rfl) ?_
              refine WL_nil ?_
              refine W_ret ?_
              refine qr1 ?_
              refine ⟨vstr (byts_ext ?_), hx0⟩
              show _ = globL ⟨rt, dr, ps⟩
              rw [globL_eq]
              unfold L4
              rw [if_pos h51]
              simp [byts] at e3 ⊢
              exact e3
            · have g51 := h51
              refine W_skip ?_
              refine W_seq ?_
              refine W_region ?_
              refine WL_val rfl rfl rfl (st_mv (v := .string _) rfl) ?_
              refine WL_val rfl rfl rfl (st_as (v := .string _) rfl) ?_
              refine WL_nil ?_
              refine W_ret ?_
              refine qr1 ?_
              refine ⟨vstr (byts_ext ?_), hx0⟩
              show _ = globL ⟨rt, dr, ps⟩
              rw [globL_eq]
              unfold L4
              rw [if_neg (by rw [show dr = false from h51]; simp)]
              exact e3
          · have g47 := h47
            refine W_skip ?_
            refine W_seq ?_
            refine W_seq ?_
            have e3 : byts s2 = L3 rt (L2 rt (L1 dr ps)) := by
              unfold L3
              rw [if_neg (by rw [show rt = false from h47]; simp)]
              exact e2
            generalize s2 = s3 at e3
            refine W_region ?_
            refine WL_val rfl rfl rfl (st_fieldAddr (off := 1) Tryd.underlying24 rfl rfl ti4 rfl) ?_
            refine WL_val rfl rfl rfl (st_load ⟨_, Tryd.underlying4, rfl⟩ rfl (hb1.cell 1 rfl)) ?_
            refine WL_nil ?_
            refine W_cond rfl (fun h51 => ?_) (fun h51 => ?_)
            · have g51 := h51
              refine W_region ?_
              refine WL_val rfl rfl rfl (st_mv (v := .string _) rfl) ?_
              refine WL_val rfl rfl rfl (st_adds rfl rfl (by have := L3_size hl e3; show _ + 1 ≤ _; omega)) ?_
              refine WL_val rfl rfl rfl (st_as (v := .string _) rfl) ?_
              refine WL_nil ?_
              refine W_seq ?_
              refine W_region ?_
              refine WL_val rfl rfl rfl (st_mv (v := .string _) rfl) ?_
              refine WL_val rfl rfl rfl (st_as (v := .string _) rfl) ?_
              refine WL_nil ?_
              refine W_ret ?_
              refine qr1 ?_
              refine ⟨vstr (byts_ext ?_), hx0⟩
              show _ = globL ⟨rt, dr, ps⟩
              rw [globL_eq]
              unfold L4
              rw [if_pos h51]
              simp [byts] at e3 ⊢
              exact e3
            · have g51 := h51
              refine W_skip ?_
              refine W_seq ?_
              refine W_region ?_
              refine WL_val rfl rfl rfl (st_mv (v := .string _) rfl) ?_
              refine WL_val rfl rfl rfl (st_as (v := .string _) rfl) ?_
              refine WL_nil ?_
              refine W_ret ?_
              refine qr1 ?_
              refine ⟨vstr (byts_ext ?_), hx0⟩
              show _ = globL ⟨rt, dr, ps⟩
              rw [globL_eq]
              unfold L4
              rw [if_neg (by rw [show dr = false from h51]; simp)]
              exact e3
      · have g30 := h30
        refine W_skip ?_
        refine W_seq ?_
        refine W_seq ?_
        obtain ⟨s1, hs1⟩ : ∃ s, s = (⟨(printL false ps).toArray⟩ : ByteArray) := ⟨_, rfl⟩
        rw [← hs1]
        have e1 : byts s1 = L1 dr ps := by
          rw [hs1]
          unfold L1
          have hsl : (!dr && lastSlash ps) = false := by rw [hls]; unfold isTextP; rw [h26, ← sufB_one, h30]; simp
          rw [if_neg (by rw [hsl]; simp)]
        clear hs1
        refine W_region ?_
        refine WL_val rfl rfl rfl (st_fieldAddr (off := 0) Tryd.underlying24 rfl rfl ti4 rfl) ?_
        refine WL_val rfl rfl rfl (st_load ⟨_, Tryd.underlying4, rfl⟩ rfl (hb1.cell 0 rfl)) ?_
        refine WL_val rfl rfl rfl (st_not rfl) ?_
        refine WL_val rfl rfl rfl (st_mv (v := .bool _) rfl) ?_
        refine WL_split 40 rfl (fun h40 => ?_) (fun h40 => ?_)
        · have g40 := h40
          refine WL_valg rfl rfl rfl (congrArg Value.bool h40) rfl rfl (st_mv (v := .string _) rfl) ?_
          refine WL_callg rfl rfl rfl (congrArg Value.bool h40) rfl rfl (str_pre_ok s1 ⟨#[47]⟩ _ (Nat.le_trans (L1_size hl e1) (by decide)) (by decide)) (ent_go rfl) ?_
          rintro _ w18 ⟨rfl, rfl⟩
          refine WL_val rfl rfl rfl (st_pk_t (v := .bool _) (congrArg Value.bool h40) rfl) ?_
          refine WL_nil ?_
          refine W_cond rfl (fun h43 => ?_) (fun h43 => ?_)
          · have g43 := h43
            refine W_region ?_
            refine WL_val rfl rfl rfl (st_mv (v := .string _) rfl) ?_
            refine WL_val rfl rfl rfl (st_adds rfl rfl (by have := L1_size hl e1; show 1 + _ ≤ _; omega)) ?_
            refine WL_val rfl rfl rfl (st_as (v := .string _) rfl) ?_
            refine WL_nil ?_
            refine W_seq ?_
            refine W_seq ?_
            obtain ⟨s2, hs2⟩ : ∃ s, s = (⟨#[92]⟩ ++ s1 : ByteArray) := ⟨_, rfl⟩
            rw [← hs2]
            rw [preB_one, e1] at h43
            have e2 : byts s2 = L2 rt (L1 dr ps) := by
              rw [hs2]
              unfold L2
              rw [if_pos (by rw [h40, h43]; rfl)]
              simp [byts] at e1 ⊢
              exact e1
            clear hs2
            refine W_region ?_
            refine WL_val rfl rfl rfl (st_fieldAddr (off := 0) Tryd.underlying24 rfl rfl ti4 rfl) ?_
            refine WL_val rfl rfl rfl (st_load ⟨_, Tryd.underlying4, rfl⟩ rfl (hb1.cell 0 rfl)) ?_
            refine WL_nil ?_
            refine W_cond rfl (fun h47 => ?_) (fun h47 => ?_)
            · have g47 := h47
              refine W_region ?_
              refine WL_val rfl rfl rfl (st_mv (v := .string _) rfl) ?_
              refine WL_val rfl rfl rfl (st_adds rfl rfl (by have := L2_size hl e2; show 1 + _ ≤ _; omega)) ?_
              refine WL_val rfl rfl rfl (st_as (v := .string _) rfl) ?_
              refine WL_nil ?_
              refine W_seq ?_
              refine W_seq ?_
              obtain ⟨s3, hs3⟩ : ∃ s, s = (⟨#[47]⟩ ++ s2 : ByteArray) := ⟨_, rfl⟩
              rw [← hs3]
              have e3 : byts s3 = L3 rt (L2 rt (L1 dr ps)) := by
                rw [hs3]
                unfold L3
                rw [if_pos h47]
                simp [byts] at e2 ⊢
                exact e2
              clear hs3
              refine W_region ?_
              refine WL_val rfl rfl rfl (st_fieldAddr (off := 1) Tryd.underlying24 rfl rfl ti4 rfl) ?_
              refine WL_val rfl rfl rfl (st_load ⟨_, Tryd.underlying4, rfl⟩ rfl (hb1.cell 1 rfl)) ?_
              refine WL_nil ?_
              refine W_cond rfl (fun h51 => ?_) (fun h51 => ?_)
              · have g51 := h51
                refine W_region ?_
                refine WL_val rfl rfl rfl (st_mv (v := .string _) rfl) ?_
                refine WL_val rfl rfl rfl (st_adds rfl rfl (by have := L3_size hl e3; show _ + 1 ≤ _; omega)) ?_
                refine WL_val rfl rfl rfl (st_as (v := .string _) rfl) ?_
                refine WL_nil ?_
                refine W_seq ?_
                refine W_region ?_
                refine WL_val rfl rfl rfl (st_mv (v := .string _) rfl) ?_
                refine WL_val rfl rfl rfl (st_as (v := .string _) rfl) ?_
                refine WL_nil ?_
                refine W_ret ?_
                refine qr1 ?_
                refine ⟨vstr (byts_ext ?_), hx0⟩
                show _ = globL ⟨rt, dr, ps⟩
                rw [globL_eq]
                unfold L4
                rw [if_pos h51]
                simp [byts] at e3 ⊢
                exact e3
              · have g51 := h51
                refine W_skip ?_
                refine W_seq ?_
                refine W_region ?_
                refine WL_val rfl rfl rfl (st_mv (v := .string _) rfl) ?_
                refine WL_val rfl rfl rfl (st_as (v := .string _) rfl) ?_
                refine WL_nil ?_
                refine W_ret ?_
                refine qr1 ?_
                refine ⟨vstr (byts_ext ?_), hx0⟩
                show _ = globL ⟨rt, dr, ps⟩
                rw [globL_eq]
                unfold L4
                rw [if_neg (by rw [show dr = false from h51]; simp)]
                exact e3
            · have g47 := h47
              refine W_skip ?_
              refine W_seq ?_
              refine W_seq ?_
              have e3 : byts s2 = L3 rt (L2 rt (L1 dr ps)) := by
                unfold L3
                rw [if_neg (by rw [show rt = false from h47]; simp)]
                exact e2
              generalize s2 = s3 at e3
              refine W_region ?_
              refine WL_val rfl rfl rfl (st_fieldAddr (off := 1) Tryd.underlying24 rfl rfl ti4 rfl) ?_
              refine WL_val rfl rfl rfl (st_load ⟨_, Tryd.underlying4, rfl⟩ rfl (hb1.cell 1 rfl)) ?_
              refine WL_nil ?_
              refine W_cond rfl (fun h51 => ?_) (fun h51 => ?_)
              · have g51 := h51
                refine W_region ?_
                refine WL_val rfl rfl rfl (st_mv (v := .string _) rfl) ?_
                refine WL_val rfl rfl rfl (st_adds rfl rfl (by have := L3_size hl e3; show _ + 1 ≤ _; omega)) ?_
                refine WL_val rfl rfl rfl (st_as (v := .string _) rfl) ?_
                refine WL_nil ?_
                refine W_seq ?_
                refine W_region ?_
                refine WL_val rfl rfl rfl (st_mv (v := .string _) rfl) ?_
                refine WL_val rfl rfl rfl (st_as (v := .string _) rfl) ?_
                refine WL_nil ?_
                refine W_ret ?_
                refine qr1 ?_
                refine ⟨vstr (byts_ext ?_), hx0⟩
                show _ = globL ⟨rt, dr, ps⟩
                rw [globL_eq]
                unfold L4
                rw [if_pos h51]
                simp [byts] at e3 ⊢
                exact e3
              · have g51 := h51
                refine W_skip ?_
                refine W_seq ?_
                refine W_region ?_
                refine WL_val rfl rfl rfl (st_mv (v := .string _) rfl) ?_
                refine WL_val rfl rfl rfl (st_as (v := .string _) rfl) ?_
                refine WL_nil ?_
                refine W_ret ?_
                refine qr1 ?_
                refine ⟨vstr (byts_ext ?_), hx0⟩
                show _ = globL ⟨rt, dr, ps⟩
                rw [globL_eq]
                unfold L4
                rw [if_neg (by rw [show dr = false from h51]; simp)]
                exact e3
          · have g43 := h43
            refine W_skip ?_
            refine W_seq ?_
            refine W_seq ?_
            rw [preB_one, e1] at h43
            have e2 : byts s1 = L2 rt (L1 dr ps) := by
              unfold L2
              rw [if_neg (by rw [h43]; simp)]
              exact e1
            generalize s1 = s2 at e2
            refine W_region ?_
            refine WL_val rfl rfl rfl (st_fieldAddr (off := 0) Tryd.underlying24 rfl rfl ti4 rfl) ?_
            refine WL_val rfl rfl rfl (st_load ⟨_, Tryd.underlying4, rfl⟩ rfl (hb1.cell 0 rfl)) ?_
            refine WL_nil ?_
            refine W_cond rfl (fun h47 => ?_) (fun h47 => ?_)
            · have g47 := h47
              refine W_region ?_
              refine WL_val rfl rfl rfl (st_mv (v := .string _) rfl) ?_
              refine WL_val rfl rfl rfl (st_adds rfl rfl (by have := L2_size hl e2; show 1 + _ ≤ _; omega)) ?_
              refine WL_val rfl rfl rfl (st_as (v := .string _) rfl) ?_
              refine WL_nil ?_
              refine W_seq ?_
              refine W_seq ?_
              obtain ⟨s3, hs3⟩ : ∃ s, s = (⟨#[47]⟩ ++ s2 : ByteArray) := ⟨_, rfl⟩
              rw [← hs3]
              have e3 : byts s3 = L3 rt (L2 rt (L1 dr ps)) := by
                rw [hs3]
                unfold L3
                rw [if_pos h47]
                simp [byts] at e2 ⊢
                exact e2
              clear hs3
              refine W_region ?_
              refine WL_val rfl rfl rfl (st_fieldAddr (off := 1) Tryd.underlying24 rfl rfl ti4 rfl) ?_
              refine WL_val rfl rfl rfl (st_load ⟨_, Tryd.underlying4, rfl⟩ rfl (hb1.cell 1 rfl)) ?_
              refine WL_nil ?_
              refine W_cond rfl (fun h51 => ?_) (fun h51 => ?_)
              · have g51 := h51
                refine W_region ?_
                refine WL_val rfl rfl rfl (st_mv (v := .string _) rfl) ?_
                refine WL_val rfl rfl rfl (st_adds rfl rfl (by have := L3_size hl e3; show _ + 1 ≤ _; omega)) ?_
                refine WL_val rfl rfl rfl (st_as (v := .string _) rfl) ?_
                refine WL_nil ?_
                refine W_seq ?_
                refine W_region ?_
                refine WL_val rfl rfl rfl (st_mv (v := .string _) rfl) ?_
                refine WL_val rfl rfl rfl (st_as (v := .string _) rfl) ?_
                refine WL_nil ?_
                refine W_ret ?_
                refine qr1 ?_
                refine ⟨vstr (byts_ext ?_), hx0⟩
                show _ = globL ⟨rt, dr, ps⟩
                rw [globL_eq]
                unfold L4
                rw [if_pos h51]
                simp [byts] at e3 ⊢
                exact e3
              · have g51 := h51
                refine W_skip ?_
                refine W_seq ?_
                refine W_region ?_
                refine WL_val rfl rfl rfl (st_mv (v := .string _) rfl) ?_
                refine WL_val rfl rfl rfl (st_as (v := .string _) rfl) ?_
                refine WL_nil ?_
                refine W_ret ?_
                refine qr1 ?_
                refine ⟨vstr (byts_ext ?_), hx0⟩
                show _ = globL ⟨rt, dr, ps⟩
                rw [globL_eq]
                unfold L4
                rw [if_neg (by rw [show dr = false from h51]; simp)]
                exact e3
            · have g47 := h47
              refine W_skip ?_
              refine W_seq ?_
              refine W_seq ?_
              have e3 : byts s2 = L3 rt (L2 rt (L1 dr ps)) := by
                unfold L3
                rw [if_neg (by rw [show rt = false from h47]; simp)]
                exact e2
              generalize s2 = s3 at e3
              refine W_region ?_
              refine WL_val rfl rfl rfl (st_fieldAddr (off := 1) Tryd.underlying24 rfl rfl ti4 rfl) ?_
              refine WL_val rfl rfl rfl (st_load ⟨_, Tryd.underlying4, rfl⟩ rfl (hb1.cell 1 rfl)) ?_
              refine WL_nil ?_
              refine W_cond rfl (fun h51 => ?_) (fun h51 => ?_)
              · have g51 := h51
                refine W_region ?_
                refine WL_val rfl rfl rfl (st_mv (v := .string _) rfl) ?_
                refine WL_val rfl rfl rfl (st_adds rfl rfl (by have := L3_size hl e3; show _ + 1 ≤ _; omega)) ?_
                refine WL_val rfl rfl rfl (st_as (v := .string _) rfl) ?_
                refine WL_nil ?_
                refine W_seq ?_
                refine W_region ?_
                refine WL_val rfl rfl rfl (st_mv (v := .string _) rfl) ?_
                refine WL_val rfl rfl rfl (st_as (v := .string _) rfl) ?_
                refine WL_nil ?_
                refine W_ret ?_
                refine qr1 ?_
                refine ⟨vstr (byts_ext ?_), hx0⟩
                show _ = globL ⟨rt, dr, ps⟩
                rw [globL_eq]
                unfold L4
                rw [if_pos h51]
                simp [byts] at e3 ⊢
                exact e3
              · have g51 := h51
                refine W_skip ?_
                refine W_seq ?_
                refine W_region ?_
                refine WL_val rfl rfl rfl (st_mv (v := .string _) rfl) ?_
                refine WL_val rfl rfl rfl (st_as (v := .string _) rfl) ?_
                refine WL_nil ?_
                refine W_ret ?_
                refine qr1 ?_
                refine ⟨vstr (byts_ext ?_), hx0⟩
                show _ = globL ⟨rt, dr, ps⟩
                rw [globL_eq]
                unfold L4
                rw [if_neg (by rw [show dr = false from h51]; simp)]
                exact e3
        · have g40 := h40
          refine WL_pass rfl rfl rfl (congrArg Value.bool h40) rfl rfl ?_
          refine WL_pass rfl rfl rfl (congrArg Value.bool h40) rfl rfl ?_
          refine WL_val rfl rfl rfl (st_pk_f (v := (.bool false)) (congrArg Value.bool h40) rfl) ?_
          refine WL_nil ?_
          refine W_no rfl ?_
          refine W_skip ?_
          refine W_seq ?_
          refine W_seq ?_
          have e2 : byts s1 = L2 rt (L1 dr ps) := by
            unfold L2
            rw [if_neg (by rw [h40]; simp)]
            exact e1
          generalize s1 = s2 at e2
          refine W_region ?_
          refine WL_val rfl rfl rfl (st_fieldAddr (off := 0) Tryd.underlying24 rfl rfl ti4 rfl) ?_
          refine WL_val rfl rfl rfl (st_load ⟨_, Tryd.underlying4, rfl⟩ rfl (hb1.cell 0 rfl)) ?_
          refine WL_nil ?_
          refine W_cond rfl (fun h47 => ?_) (fun h47 => ?_)
          · have g47 := h47
            refine W_region ?_
            refine WL_val rfl rfl rfl (st_mv (v := .string _) rfl) ?_
            refine WL_val rfl rfl rfl (st_adds rfl rfl (by have := L2_size hl e2; show 1 + _ ≤ _; omega)) ?_
            refine WL_val rfl rfl rfl (st_as (v := .string _) rfl) ?_
            refine WL_nil ?_
            refine W_seq ?_
            refine W_seq ?_
            obtain ⟨s3, hs3⟩ : ∃ s, s = (⟨#[47]⟩ ++ s2 : ByteArray) := ⟨_, rfl⟩
            rw [← hs3]
            have e3 : byts s3 = L3 rt (L2 rt (L1 dr ps)) := by
              rw [hs3]
              unfold L3
              rw [if_pos h47]
              simp [byts] at e2 ⊢
              exact e2
            clear hs3
            refine W_region ?_
            refine WL_val rfl rfl rfl (st_fieldAddr (off := 1) Tryd.underlying24 rfl rfl ti4 rfl) ?_
            refine WL_val rfl rfl rfl (st_load ⟨_, Tryd.underlying4, rfl⟩ rfl (hb1.cell 1 rfl)) ?_
            refine WL_nil ?_
            refine W_cond rfl (fun h51 => ?_) (fun h51 => ?_)
            · have g51 := h51
              refine W_region ?_
              refine WL_val rfl rfl rfl (st_mv (v := .string _) rfl) ?_
              refine WL_val rfl rfl rfl (st_adds rfl rfl (by have := L3_size hl e3; show _ + 1 ≤ _; omega)) ?_
              refine WL_val rfl rfl rfl (st_as (v := .string _) rfl) ?_
              refine WL_nil ?_
              refine W_seq ?_
              refine W_region ?_
              refine WL_val rfl rfl rfl (st_mv (v := .string _) rfl) ?_
              refine WL_val rfl rfl rfl (st_as (v := .string _) rfl) ?_
              refine WL_nil ?_
              refine W_ret ?_
              refine qr1 ?_
              refine ⟨vstr (byts_ext ?_), hx0⟩
              show _ = globL ⟨rt, dr, ps⟩
              rw [globL_eq]
              unfold L4
              rw [if_pos h51]
              simp [byts] at e3 ⊢
              exact e3
            · have g51 := h51
              refine W_skip ?_
              refine W_seq ?_
              refine W_region ?_
              refine WL_val rfl rfl rfl (st_mv (v := .string _) rfl) ?_
              refine WL_val rfl rfl rfl (st_as (v := .string _) rfl) ?_
              refine WL_nil ?_
              refine W_ret ?_
              refine qr1 ?_
              refine ⟨vstr (byts_ext ?_), hx0⟩
              show _ = globL ⟨rt, dr, ps⟩
              rw [globL_eq]
              unfold L4
              rw [if_neg (by rw [show dr = false from h51]; simp)]
              exact e3
          · have g47 := h47
            refine W_skip ?_
            refine W_seq ?_
            refine W_seq ?_
            have e3 : byts s2 = L3 rt (L2 rt (L1 dr ps)) := by
              unfold L3
              rw [if_neg (by rw [show rt = false from h47]; simp)]
              exact e2
            generalize s2 = s3 at e3
            refine W_region ?_
            refine WL_val rfl rfl rfl (st_fieldAddr (off := 1) Tryd.underlying24 rfl rfl ti4 rfl) ?_
            refine WL_val rfl rfl rfl (st_load ⟨_, Tryd.underlying4, rfl⟩ rfl (hb1.cell 1 rfl)) ?_
            refine WL_nil ?_
            refine W_cond rfl (fun h51 => ?_) (fun h51 => ?_)
            · have g51 := h51
              refine W_region ?_
              refine WL_val rfl rfl rfl (st_mv (v := .string _) rfl) ?_
              refine WL_val rfl rfl rfl (st_adds rfl rfl (by have := L3_size hl e3; show _ + 1 ≤ _; omega)) ?_
              refine WL_val rfl rfl rfl (st_as (v := .string _) rfl) ?_
              refine WL_nil ?_
              refine W_seq ?_
              refine W_region ?_
              refine WL_val rfl rfl rfl (st_mv (v := .string _) rfl) ?_
              refine WL_val rfl rfl rfl (st_as (v := .string _) rfl) ?_
              refine WL_nil ?_
              refine W_ret ?_
              refine qr1 ?_
              refine ⟨vstr (byts_ext ?_), hx0⟩
              show _ = globL ⟨rt, dr, ps⟩
              rw [globL_eq]
              unfold L4
              rw [if_pos h51]
              simp [byts] at e3 ⊢
              exact e3
            · have g51 := h51
              refine W_skip ?_
              refine W_seq ?_
              refine W_region ?_
              refine WL_val rfl rfl rfl (st_mv (v := .string _) rfl) ?_
              refine WL_val rfl rfl rfl (st_as (v := .string _) rfl) ?_
              refine WL_nil ?_
              refine W_ret ?_
              refine qr1 ?_
              refine ⟨vstr (byts_ext ?_), hx0⟩
              show _ = globL ⟨rt, dr, ps⟩
              rw [globL_eq]
              unfold L4
              rw [if_neg (by rw [show dr = false from h51]; simp)]
              exact e3
    · have g26 := of_decide_eq_false h26
      refine WL_pass rfl rfl rfl (congrArg Value.bool h26) rfl rfl ?_
      refine WL_pass rfl rfl rfl (congrArg Value.bool h26) rfl rfl ?_
      refine WL_pass rfl rfl rfl (congrArg Value.bool h26) rfl rfl ?_
      refine WL_val rfl rfl rfl (st_pk_f (v := (.bool false)) (congrArg Value.bool h26) rfl) ?_
      refine WL_nil ?_
      refine W_no rfl ?_
      refine W_skip ?_
      refine W_seq ?_
      refine W_seq ?_
      obtain ⟨s1, hs1⟩ : ∃ s, s = (⟨(printL false ps).toArray⟩ : ByteArray) := ⟨_, rfl⟩
      rw [← hs1]
      have e1 : byts s1 = L1 dr ps := by
        rw [hs1]
        unfold L1
        have hsl : (!dr && lastSlash ps) = false := by rw [hls]; unfold isTextP; rw [h26]; simp
        rw [if_neg (by rw [hsl]; simp)]
      clear hs1
      refine W_region ?_
      refine WL_val rfl rfl rfl (st_fieldAddr (off := 0) Tryd.underlying24 rfl rfl ti4 rfl) ?_
      refine WL_val rfl rfl rfl (st_load ⟨_, Tryd.underlying4, rfl⟩ rfl (hb1.cell 0 rfl)) ?_
      refine WL_val rfl rfl rfl (st_not rfl) ?_
      refine WL_val rfl rfl rfl (st_mv (v := .bool _) rfl) ?_
      refine WL_split 40 rfl (fun h40 => ?_) (fun h40 => ?_)
      · have g40 := h40
        refine WL_valg rfl rfl rfl (congrArg Value.bool h40) rfl rfl (st_mv (v := .string _) rfl) ?_
        refine WL_callg rfl rfl rfl (congrArg Value.bool h40) rfl rfl (str_pre_ok s1 ⟨#[47]⟩ _ (Nat.le_trans (L1_size hl e1) (by decide)) (by decide)) (ent_go rfl) ?_
        rintro _ w20 ⟨rfl, rfl⟩
        refine WL_val rfl rfl rfl (st_pk_t (v := .bool _) (congrArg Value.bool h40) rfl) ?_
        refine WL_nil ?_
        refine W_cond rfl (fun h43 => ?_) (fun h43 => ?_)
        · have g43 := h43
          refine W_region ?_
          refine WL_val rfl rfl rfl (st_mv (v := .string _) rfl) ?_
          refine WL_val rfl rfl rfl (st_adds rfl rfl (by have := L1_size hl e1; show 1 + _ ≤ _; omega)) ?_
          refine WL_val rfl rfl rfl (st_as (v := .string _) rfl) ?_
          refine WL_nil ?_
          refine W_seq ?_
          refine W_seq ?_
          obtain ⟨s2, hs2⟩ : ∃ s, s = (⟨#[92]⟩ ++ s1 : ByteArray) := ⟨_, rfl⟩
          rw [← hs2]
          rw [preB_one, e1] at h43
          have e2 : byts s2 = L2 rt (L1 dr ps) := by
            rw [hs2]
            unfold L2
            rw [if_pos (by rw [h40, h43]; rfl)]
            simp [byts] at e1 ⊢
            exact e1
          clear hs2
          refine W_region ?_
          refine WL_val rfl rfl rfl (st_fieldAddr (off := 0) Tryd.underlying24 rfl rfl ti4 rfl) ?_
          refine WL_val rfl rfl rfl (st_load ⟨_, Tryd.underlying4, rfl⟩ rfl (hb1.cell 0 rfl)) ?_
          refine WL_nil ?_
          refine W_cond rfl (fun h47 => ?_) (fun h47 => ?_)
          · have g47 := h47
            refine W_region ?_
            refine WL_val rfl rfl rfl (st_mv (v := .string _) rfl) ?_
            refine WL_val rfl rfl rfl (st_adds rfl rfl (by have := L2_size hl e2; show 1 + _ ≤ _; omega)) ?_
            refine WL_val rfl rfl rfl (st_as (v := .string _) rfl) ?_
            refine WL_nil ?_
            refine W_seq ?_
            refine W_seq ?_
            obtain ⟨s3, hs3⟩ : ∃ s, s = (⟨#[47]⟩ ++ s2 : ByteArray) := ⟨_, rfl⟩
            rw [← hs3]
            have e3 : byts s3 = L3 rt (L2 rt (L1 dr ps)) := by
              rw [hs3]
              unfold L3
              rw [if_pos h47]
              simp [byts] at e2 ⊢
              exact e2
            clear hs3
            refine W_region ?_
            refine WL_val rfl rfl rfl (st_fieldAddr (off := 1) Tryd.underlying24 rfl rfl ti4 rfl) ?_
            refine WL_val rfl rfl rfl (st_load ⟨_, Tryd.underlying4, rfl⟩ rfl (hb1.cell 1 rfl)) ?_
            refine WL_nil ?_
            refine W_cond rfl (fun h51 => ?_) (fun h51 => ?_)
            · have g51 := h51
              refine W_region ?_
              refine WL_val rfl rfl rfl (st_mv (v := .string _) rfl) ?_
              refine WL_val rfl rfl rfl (st_adds rfl rfl (by have := L3_size hl e3; show _ + 1 ≤ _; omega)) ?_
              refine WL_val rfl rfl rfl (st_as (v := .string _) rfl) ?_
              refine WL_nil ?_
              refine W_seq ?_
              refine W_region ?_
              refine WL_val rfl rfl rfl (st_mv (v := .string _) rfl) ?_
              refine WL_val rfl rfl rfl (st_as (v := .string _) rfl) ?_
              refine WL_nil ?_
              refine W_ret ?_
              refine qr1 ?_
              refine ⟨vstr (byts_ext ?_), hx0⟩
              show _ = globL ⟨rt, dr, ps⟩
              rw [globL_eq]
              unfold L4
              rw [if_pos h51]
              simp [byts] at e3 ⊢
              exact e3
            · have g51 := h51
              refine W_skip ?_
              refine W_seq ?_
              refine W_region ?_
              refine WL_val rfl rfl rfl (st_mv (v := .string _) rfl) ?_
              refine WL_val rfl rfl rfl (st_as (v := .string _) rfl) ?_
              refine WL_nil ?_
              refine W_ret ?_
              refine qr1 ?_
              refine ⟨vstr (byts_ext ?_), hx0⟩
              show _ = globL ⟨rt, dr, ps⟩
              rw [globL_eq]
              unfold L4
              rw [if_neg (by rw [show dr = false from h51]; simp)]
              exact e3
          · have g47 := h47
            refine W_skip ?_
            refine W_seq ?_
            refine W_seq ?_
            have e3 : byts s2 = L3 rt (L2 rt (L1 dr ps)) := by
              unfold L3
              rw [if_neg (by rw [show rt = false from h47]; simp)]
              exact e2
            generalize s2 = s3 at e3
            refine W_region ?_
            refine WL_val rfl rfl rfl (st_fieldAddr (off := 1) Tryd.underlying24 rfl rfl ti4 rfl) ?_
            refine WL_val rfl rfl rfl (st_load ⟨_, Tryd.underlying4, rfl⟩ rfl (hb1.cell 1 rfl)) ?_
            refine WL_nil ?_
            refine W_cond rfl (fun h51 => ?_) (fun h51 => ?_)
            · have g51 := h51
              refine W_region ?_
              refine WL_val rfl rfl rfl (st_mv (v := .string _) rfl) ?_
              refine WL_val rfl rfl rfl (st_adds rfl rfl (by have := L3_size hl e3; show _ + 1 ≤ _; omega)) ?_
              refine WL_val rfl rfl rfl (st_as (v := .string _) rfl) ?_
              refine WL_nil ?_
              refine W_seq ?_
              refine W_region ?_
              refine WL_val rfl rfl rfl (st_mv (v := .string _) rfl) ?_
              refine WL_val rfl rfl rfl (st_as (v := .string _) rfl) ?_
              refine WL_nil ?_
              refine W_ret ?_
              refine qr1 ?_
              refine ⟨vstr (byts_ext ?_), hx0⟩
              show _ = globL ⟨rt, dr, ps⟩
              rw [globL_eq]
              unfold L4
              rw [if_pos h51]
              simp [byts] at e3 ⊢
              exact e3
            · have g51 := h51
              refine W_skip ?_
              refine W_seq ?_
              refine W_region ?_
              refine WL_val rfl rfl rfl (st_mv (v := .string _) rfl) ?_
              refine WL_val rfl rfl rfl (st_as (v := .string _) rfl) ?_
              refine WL_nil ?_
              refine W_ret ?_
              refine qr1 ?_
              refine ⟨vstr (byts_ext ?_), hx0⟩
              show _ = globL ⟨rt, dr, ps⟩
              rw [globL_eq]
              unfold L4
              rw [if_neg (by rw [show dr = false from h51]; simp)]
              exact e3
        · have g43 := h43
          refine W_skip ?_
          refine W_seq ?_
          refine W_seq ?_
          rw [preB_one, e1] at h43
          have e2 : byts s1 = L2 rt (L1 dr ps) := by
            unfold L2
            rw [if_neg (by rw [h43]; simp)]
            exact e1
          generalize s1 = s2 at e2
          refine W_region ?_
          refine WL_val rfl rfl rfl (st_fieldAddr (off := 0) Tryd.underlying24 rfl rfl ti4 rfl) ?_
          refine WL_val rfl rfl rfl (st_load ⟨_, Tryd.underlying4, rfl⟩ rfl (hb1.cell 0 rfl)) ?_
          refine WL_nil ?_
          refine W_cond rfl (fun h47 => ?_) (fun h47 => ?_)
          · have g47 := h47
            refine W_region ?_
            refine WL_val rfl rfl rfl (st_mv (v := .string _) rfl) ?_
            refine WL_val rfl rfl rfl (st_adds rfl rfl (by have := L2_size hl e2; show 1 + _ ≤ _; omega)) ?_
            refine WL_val rfl rfl rfl (st_as (v := .string _) rfl) ?_
            refine WL_nil ?_
            refine W_seq ?_
            refine W_seq ?_
            obtain ⟨s3, hs3⟩ : ∃ s, s = (⟨#[47]⟩ ++ s2 : ByteArray) := ⟨_, rfl⟩
            rw [← hs3]
            have e3 : byts s3 = L3 rt (L2 rt (L1 dr ps)) := by
              rw [hs3]
              unfold L3
              rw [if_pos h47]
              simp [byts] at e2 ⊢
              exact e2
            clear hs3
            refine W_region ?_
            refine WL_val rfl rfl rfl (st_fieldAddr (off := 1) Tryd.underlying24 rfl rfl ti4 rfl) ?_
            refine WL_val rfl rfl rfl (st_load ⟨_, Tryd.underlying4, rfl⟩ rfl (hb1.cell 1 rfl)) ?_
            refine WL_nil ?_
            refine W_cond rfl (fun h51 => ?_) (fun h51 => ?_)
            · have g51 := h51
              refine W_region ?_
              refine WL_val rfl rfl rfl (st_mv (v := .string _) rfl) ?_
              refine WL_val rfl rfl rfl (st_adds rfl rfl (by have := L3_size hl e3; show _ + 1 ≤ _; omega)) ?_
              refine WL_val rfl rfl rfl (st_as (v := .string _) rfl) ?_
              refine WL_nil ?_
              refine W_seq ?_
              refine W_region ?_
              refine WL_val rfl rfl rfl (st_mv (v := .string _) rfl) ?_
              refine WL_val rfl rfl rfl (st_as (v := .string _) rfl) ?_
              refine WL_nil ?_
              refine W_ret ?_
              refine qr1 ?_
              refine ⟨vstr (byts_ext ?_), hx0⟩
              show _ = globL ⟨rt, dr, ps⟩
              rw [globL_eq]
              unfold L4
              rw [if_pos h51]
              simp [byts] at e3 ⊢
              exact e3
            · have g51 := h51
              refine W_skip ?_
              refine W_seq ?_
              refine W_region ?_
              refine WL_val rfl rfl rfl (st_mv (v := .string _) rfl) ?_
              refine WL_val rfl rfl rfl (st_as (v := .string _) rfl) ?_
              refine WL_nil ?_
              refine W_ret ?_
              refine qr1 ?_
              refine ⟨vstr (byts_ext ?_), hx0⟩
              show _ = globL ⟨rt, dr, ps⟩
              rw [globL_eq]
              unfold L4
              rw [if_neg (by rw [show dr = false from h51]; simp)]
              exact e3
          · have g47 := h47
            refine W_skip ?_
            refine W_seq ?_
            refine W_seq ?_
            have e3 : byts s2 = L3 rt (L2 rt (L1 dr ps)) := by
              unfold L3
              rw [if_neg (by rw [show rt = false from h47]; simp)]
              exact e2
            generalize s2 = s3 at e3
            refine W_region ?_
            refine WL_val rfl rfl rfl (st_fieldAddr (off := 1) Tryd.underlying24 rfl rfl ti4 rfl) ?_
            refine WL_val rfl rfl rfl (st_load ⟨_, Tryd.underlying4, rfl⟩ rfl (hb1.cell 1 rfl)) ?_
            refine WL_nil ?_
            refine W_cond rfl (fun h51 => ?_) (fun h51 => ?_)
            · have g51 := h51
              refine W_region ?_
              refine WL_val rfl rfl rfl (st_mv (v := .string _) rfl) ?_
              refine WL_val rfl rfl rfl (st_adds rfl rfl (by have := L3_size hl e3; show _ + 1 ≤ _; omega)) ?_
              refine WL_val rfl rfl rfl (st_as (v := .string _) rfl) ?_
              refine WL_nil ?_
              refine W_seq ?_
              refine W_region ?_
              refine WL_val rfl rfl rfl (st_mv (v := .string _) rfl) ?_
              refine WL_val rfl rfl rfl (st_as (v := .string _) rfl) ?_
              refine WL_nil ?_
              refine W_ret ?_
              refine qr1 ?_
              refine ⟨vstr (byts_ext ?_), hx0⟩
              show _ = globL ⟨rt, dr, ps⟩
              rw [globL_eq]
              unfold L4
              rw [if_pos h51]
              simp [byts] at e3 ⊢
              exact e3
            · have g51 := h51
              refine W_skip ?_
              refine W_seq ?_
              refine W_region ?_
              refine WL_val rfl rfl rfl (st_mv (v := .string _) rfl) ?_
              refine WL_val rfl rfl rfl (st_as (v := .string _) rfl) ?_
              refine WL_nil ?_
              refine W_ret ?_
              refine qr1 ?_
              refine ⟨vstr (byts_ext ?_), hx0⟩
              show _ = globL ⟨rt, dr, ps⟩
              rw [globL_eq]
              unfold L4
              rw [if_neg (by rw [show dr = false from h51]; simp)]
              exact e3
      · have g40 := h40
        refine WL_pass rfl rfl rfl (congrArg Value.bool h40) rfl rfl ?_
        refine WL_pass rfl rfl rfl (congrArg Value.bool h40) rfl rfl ?_
        refine WL_val rfl rfl rfl (st_pk_f (v := (.bool false)) (congrArg Value.bool h40) rfl) ?_
        refine WL_nil ?_
        refine W_no rfl ?_
        refine W_skip ?_
        refine W_seq ?_
        refine W_seq ?_
        have e2 : byts s1 = L2 rt (L1 dr ps) := by
          unfold L2
          rw [if_neg (by rw [h40]; simp)]
          exact e1
        generalize s1 = s2 at e2
        refine W_region ?_
        refine WL_val rfl rfl rfl (st_fieldAddr (off := 0) Tryd.underlying24 rfl rfl ti4 rfl) ?_
        refine WL_val rfl rfl rfl (st_load ⟨_, Tryd.underlying4, rfl⟩ rfl (hb1.cell 0 rfl)) ?_
        refine WL_nil ?_
        refine W_cond rfl (fun h47 => ?_) (fun h47 => ?_)
        · have g47 := h47
          refine W_region ?_
          refine WL_val rfl rfl rfl (st_mv (v := .string _) rfl) ?_
          refine WL_val rfl rfl rfl (st_adds rfl rfl (by have := L2_size hl e2; show 1 + _ ≤ _; omega)) ?_
          refine WL_val rfl rfl rfl (st_as (v := .string _) rfl) ?_
          refine WL_nil ?_
          refine W_seq ?_
          refine W_seq ?_
          obtain ⟨s3, hs3⟩ : ∃ s, s = (⟨#[47]⟩ ++ s2 : ByteArray) := ⟨_, rfl⟩
          rw [← hs3]
          have e3 : byts s3 = L3 rt (L2 rt (L1 dr ps)) := by
            rw [hs3]
            unfold L3
            rw [if_pos h47]
            simp [byts] at e2 ⊢
            exact e2
          clear hs3
          refine W_region ?_
          refine WL_val rfl rfl rfl (st_fieldAddr (off := 1) Tryd.underlying24 rfl rfl ti4 rfl) ?_
          refine WL_val rfl rfl rfl (st_load ⟨_, Tryd.underlying4, rfl⟩ rfl (hb1.cell 1 rfl)) ?_
          refine WL_nil ?_
          refine W_cond rfl (fun h51 => ?_) (fun h51 => ?_)
          · have g51 := h51
            refine W_region ?_
            refine WL_val rfl rfl rfl (st_mv (v := .string _) rfl) ?_
            refine WL_val rfl rfl rfl (st_adds rfl rfl (by have := L3_size hl e3; show _ + 1 ≤ _; omega)) ?_
            refine WL_val rfl rfl rfl (st_as (v := .string _) rfl) ?_
            refine WL_nil ?_
            refine W_seq ?_
            refine W_region ?_
            refine WL_val rfl rfl rfl (st_mv (v := .string _) rfl) ?_
            refine WL_val rfl rfl rfl (st_as (v := .string _) rfl) ?_
            refine WL_nil ?_
            refine W_ret ?_
            refine qr1 ?_
            refine ⟨vstr (byts_ext ?_), hx0⟩
            show _ = globL ⟨rt, dr, ps⟩
            rw [globL_eq]
            unfold L4
            rw [if_pos h51]
            simp [byts] at e3 ⊢
            exact e3
          · have g51 := h51
            refine W_skip ?_
            refine W_seq ?_
            refine W_region ?_
            refine WL_val rfl rfl rfl (st_mv (v := .string _) rfl) ?_
            refine WL_val rfl rfl rfl (st_as (v := .string _) rfl) ?_
            refine WL_nil ?_
            refine W_ret ?_
            refine qr1 ?_
            refine ⟨vstr (byts_ext ?_), hx0⟩
            show _ = globL ⟨rt, dr, ps⟩
            rw [globL_eq]
            unfold L4
            rw [if_neg (by rw [show dr = false from h51]; simp)]
            exact e3
        · have g47 := h47
          refine W_skip ?_
          refine W_seq ?_
          refine W_seq ?_
          have e3 : byts s2 = L3 rt (L2 rt (L1 dr ps)) := by
            unfold L3
            rw [if_neg (by rw [show rt = false from h47]; simp)]
            exact e2
          generalize s2 = s3 at e3
          refine W_region ?_
          refine WL_val rfl rfl rfl (st_fieldAddr (off := 1) Tryd.underlying24 rfl rfl ti4 rfl) ?_
          refine WL_val rfl rfl rfl (st_load ⟨_, Tryd.underlying4, rfl⟩ rfl (hb1.cell 1 rfl)) ?_
          refine WL_nil ?_
          refine W_cond rfl (fun h51 => ?_) (fun h51 => ?_)
          · have g51 := h51
            refine W_region ?_
            refine WL_val rfl rfl rfl (st_mv (v := .string _) rfl) ?_
            refine WL_val rfl rfl rfl (st_adds rfl rfl (by have := L3_size hl e3; show _ + 1 ≤ _; omega)) ?_
            refine WL_val rfl rfl rfl (st_as (v := .string _) rfl) ?_
            refine WL_nil ?_
            refine W_seq ?_
            refine W_region ?_
            refine WL_val rfl rfl rfl (st_mv (v := .string _) rfl) ?_
            refine WL_val rfl rfl rfl (st_as (v := .string _) rfl) ?_
            refine WL_nil ?_
            refine W_ret ?_
            refine qr1 ?_
            refine ⟨vstr (byts_ext ?_), hx0⟩
            show _ = globL ⟨rt, dr, ps⟩
            rw [globL_eq]
            unfold L4
            rw [if_pos h51]
            simp [byts] at e3 ⊢
            exact e3
          · have g51 := h51
            refine W_skip ?_
            refine W_seq ?_
            refine W_region ?_
            refine WL_val rfl rfl rfl (st_mv (v := .string _) rfl) ?_
            refine WL_val rfl rfl rfl (st_as (v := .string _) rfl) ?_
            refine WL_nil ?_
            refine W_ret ?_
            refine qr1 ?_
            refine ⟨vstr (byts_ext ?_), hx0⟩
            show _ = globL ⟨rt, dr, ps⟩
            rw [globL_eq]
            unfold L4
            rw [if_neg (by rw [show dr = false from h51]; simp)]
            exact e3
  · have g21 := h21
    refine WL_pass rfl rfl rfl (congrArg Value.bool h21) rfl rfl ?_
    refine WL_pass rfl rfl rfl (congrArg Value.bool h21) rfl rfl ?_
    refine WL_pass rfl rfl rfl (congrArg Value.bool h21) rfl rfl ?_
    refine WL_val rfl rfl rfl (st_pk_f (v := (.bool false)) (congrArg Value.bool h21) rfl) ?_
    refine WL_val rfl rfl rfl (st_mv (v := .bool _) rfl) ?_
    refine WL_pass rfl rfl rfl rfl rfl rfl ?_
    refine WL_pass rfl rfl rfl rfl rfl rfl ?_
    refine WL_pass rfl rfl rfl rfl rfl rfl ?_
    refine WL_val rfl rfl rfl (st_pk_f (v := (.bool false)) rfl rfl) ?_
    refine WL_nil ?_
    refine W_no rfl ?_
    refine W_skip ?_
    refine W_seq ?_
    refine W_seq ?_
    obtain ⟨s1, hs1⟩ : ∃ s, s = (⟨(printL false ps).toArray⟩ : ByteArray) := ⟨_, rfl⟩
    rw [← hs1]
    have e1 : byts s1 = L1 dr ps := by
      rw [hs1]
      unfold L1
      have hsl : (!dr && lastSlash ps) = false := by rw [h21, Bool.false_and]
      rw [if_neg (by rw [hsl]; simp)]
    clear hs1
    refine W_region ?_
    refine WL_val rfl rfl rfl (st_fieldAddr (off := 0) Tryd.underlying24 rfl rfl ti4 rfl) ?_
    refine WL_val rfl rfl rfl (st_load ⟨_, Tryd.underlying4, rfl⟩ rfl (hb1.cell 0 rfl)) ?_
    refine WL_val rfl rfl rfl (st_not rfl) ?_
    refine WL_val rfl rfl rfl (st_mv (v := .bool _) rfl) ?_
    refine WL_split 40 rfl (fun h40 => ?_) (fun h40 => ?_)
    · have g40 := h40
      refine WL_valg rfl rfl rfl (congrArg Value.bool h40) rfl rfl (st_mv (v := .string _) rfl) ?_
      refine WL_callg rfl rfl rfl (congrArg Value.bool h40) rfl rfl (str_pre_ok s1 ⟨#[47]⟩ _ (Nat.le_trans (L1_size hl e1) (by decide)) (by decide)) (ent_go rfl) ?_
      rintro _ w22 ⟨rfl, rfl⟩
      refine WL_val rfl rfl rfl (st_pk_t (v := .bool _) (congrArg Value.bool h40) rfl) ?_
      refine WL_nil ?_
      refine W_cond rfl (fun h43 => ?_) (fun h43 => ?_)
      · have g43 := h43
        refine W_region ?_
        refine WL_val rfl rfl rfl (st_mv (v := .string _) rfl) ?_
        refine WL_val rfl rfl rfl (st_adds rfl rfl (by have := L1_size hl e1; show 1 + _ ≤ _; omega)) ?_
        refine WL_val rfl rfl rfl (st_as (v := .string _) rfl) ?_
        refine WL_nil ?_
        refine W_seq ?_
        refine W_seq ?_
        obtain ⟨s2, hs2⟩ : ∃ s, s = (⟨#[92]⟩ ++ s1 : ByteArray) := ⟨_, rfl⟩
        rw [← hs2]
        rw [preB_one, e1] at h43
        have e2 : byts s2 = L2 rt (L1 dr ps) := by
          rw [hs2]
          unfold L2
          rw [if_pos (by rw [h40, h43]; rfl)]
          simp [byts] at e1 ⊢
          exact e1
        clear hs2
        refine W_region ?_
        refine WL_val rfl rfl rfl (st_fieldAddr (off := 0) Tryd.underlying24 rfl rfl ti4 rfl) ?_
        refine WL_val rfl rfl rfl (st_load ⟨_, Tryd.underlying4, rfl⟩ rfl (hb1.cell 0 rfl)) ?_
        refine WL_nil ?_
        refine W_cond rfl (fun h47 => ?_) (fun h47 => ?_)
        · have g47 := h47
          refine W_region ?_
          refine WL_val rfl rfl rfl (st_mv (v := .string _) rfl) ?_
          refine WL_val rfl rfl rfl (st_adds rfl rfl (by have := L2_size hl e2; show 1 + _ ≤ _; omega)) ?_
          refine WL_val rfl rfl rfl (st_as (v := .string _) rfl) ?_
          refine WL_nil ?_
          refine W_seq ?_
          refine W_seq ?_
          obtain ⟨s3, hs3⟩ : ∃ s, s = (⟨#[47]⟩ ++ s2 : ByteArray) := ⟨_, rfl⟩
          rw [← hs3]
          have e3 : byts s3 = L3 rt (L2 rt (L1 dr ps)) := by
            rw [hs3]
            unfold L3
            rw [if_pos h47]
            simp [byts] at e2 ⊢
            exact e2
          clear hs3
          refine W_region ?_
          refine WL_val rfl rfl rfl (st_fieldAddr (off := 1) Tryd.underlying24 rfl rfl ti4 rfl) ?_
          refine WL_val rfl rfl rfl (st_load ⟨_, Tryd.underlying4, rfl⟩ rfl (hb1.cell 1 rfl)) ?_
          refine WL_nil ?_
          refine W_cond rfl (fun h51 => ?_) (fun h51 => ?_)
          · have g51 := h51
            refine W_region ?_
            refine WL_val rfl rfl rfl (st_mv (v := .string _) rfl) ?_
            refine WL_val rfl rfl rfl (st_adds rfl rfl (by have := L3_size hl e3; show _ + 1 ≤ _; omega)) ?_
            refine WL_val rfl rfl rfl (st_as (v := .string _) rfl) ?_
            refine WL_nil ?_
            refine W_seq ?_
            refine W_region ?_
            refine WL_val rfl rfl rfl (st_mv (v := .string _) rfl) ?_
            refine WL_val rfl rfl rfl (st_as (v := .string _) rfl) ?_
            refine WL_nil ?_
            refine W_ret ?_
            refine qr1 ?_
            refine ⟨vstr (byts_ext ?_), hx0⟩
            show _ = globL ⟨rt, dr, ps⟩
            rw [globL_eq]
            unfold L4
            rw [if_pos h51]
            simp [byts] at e3 ⊢
            exact e3
          · have g51 := h51
            refine W_skip ?_
            refine W_seq ?_
            refine W_region ?_
            refine WL_val rfl rfl rfl (st_mv (v := .string _) rfl) ?_
            refine WL_val rfl rfl rfl (st_as (v := .string _) rfl) ?_
            refine WL_nil ?_
            refine W_ret ?_
            refine qr1 ?_
            refine ⟨vstr (byts_ext ?_), hx0⟩
            show _ = globL ⟨rt, dr, ps⟩
            rw [globL_eq]
            unfold L4
            rw [if_neg (by rw [show dr = false from h51]; simp)]
            exact e3
        · have g47 := h47
          refine W_skip ?_
          refine W_seq ?_
          refine W_seq ?_
          have e3 : byts s2 = L3 rt (L2 rt (L1 dr ps)) := by
            unfold L3
            rw [if_neg (by rw [show rt = false from h47]; simp)]
            exact e2
          generalize s2 = s3 at e3
          refine W_region ?_
          refine WL_val rfl rfl rfl (st_fieldAddr (off := 1) Tryd.underlying24 rfl rfl ti4 rfl) ?_
          refine WL_val rfl rfl rfl (st_load ⟨_, Tryd.underlying4, rfl⟩ rfl (hb1.cell 1 rfl)) ?_
          refine WL_nil ?_
          refine W_cond rfl (fun h51 => ?_) (fun h51 => ?_)
          · have g51 := h51
            refine W_region ?_
            refine WL_val rfl rfl rfl (st_mv (v := .string _) rfl) ?_
            refine WL_val rfl rfl rfl (st_adds rfl rfl (by have := L3_size hl e3; show _ + 1 ≤ _; omega)) ?_
            refine WL_val rfl rfl rfl (st_as (v := .string _) rfl) ?_
            refine WL_nil ?_
            refine W_seq ?_
            refine W_region ?_
            refine WL_val rfl rfl rfl (st_mv (v := .string _) rfl) ?_
            refine WL_val rfl rfl rfl (st_as (v := .string _) rfl) ?_
            refine WL_nil ?_
            refine W_ret ?_
            refine qr1 ?_
            refine ⟨vstr (byts_ext ?_), hx0⟩
            show _ = globL ⟨rt, dr, ps⟩
            rw [globL_eq]
            unfold L4
            rw [if_pos h51]
            simp [byts] at e3 ⊢
            exact e3
          · have g51 := h51
            refine W_skip ?_
            refine W_seq ?_
            refine W_region ?_
            refine WL_val rfl rfl rfl (st_mv (v := .string _) rfl) ?_
            refine WL_val rfl rfl rfl (st_as (v := .string _) rfl) ?_
            refine WL_nil ?_
            refine W_ret ?_
            refine qr1 ?_
            refine ⟨vstr (byts_ext ?_), hx0⟩
            show _ = globL ⟨rt, dr, ps⟩
            rw [globL_eq]
            unfold L4
            rw [if_neg (by rw [show dr = false from h51]; simp)]
            exact e3
      · have g43 := h43
        refine W_skip ?_
        refine W_seq ?_
        refine W_seq ?_
        rw [preB_one, e1] at h43
        have e2 : byts s1 = L2 rt (L1 dr ps) := by
          unfold L2
          rw [if_neg (by rw [h43]; simp)]
          exact e1
        generalize s1 = s2 at e2
        refine W_region ?_
        refine WL_val rfl rfl rfl (st_fieldAddr (off := 0) Tryd.underlying24 rfl rfl ti4 rfl) ?_
        refine WL_val rfl rfl rfl (st_load ⟨_, Tryd.underlying4, rfl⟩ rfl (hb1.cell 0 rfl)) ?_
        refine WL_nil ?_
        refine W_cond rfl (fun h47 => ?_) (fun h47 => ?_)
        · have g47 := h47
          refine W_region ?_
          refine WL_val rfl rfl rfl (st_mv (v := .string _) rfl) ?_
          refine WL_val rfl rfl rfl (st_adds rfl rfl (by have := L2_size hl e2; show 1 + _ ≤ _; omega)) ?_
          refine WL_val rfl rfl rfl (st_as (v := .string _) rfl) ?_
          refine WL_nil ?_
          refine W_seq ?_
          refine W_seq ?_
          obtain ⟨s3, hs3⟩ : ∃ s, s = (⟨#[47]⟩ ++ s2 : ByteArray) := ⟨_, rfl⟩
          rw [← hs3]
          have e3 : byts s3 = L3 rt (L2 rt (L1 dr ps)) := by
            rw [hs3]
            unfold L3
            rw [if_pos h47]
            simp [byts] at e2 ⊢
            exact e2
          clear hs3
          refine W_region ?_
          refine WL_val rfl rfl rfl (st_fieldAddr (off := 1) Tryd.underlying24 rfl rfl ti4 rfl) ?_
          refine WL_val rfl rfl rfl (st_load ⟨_, Tryd.underlying4, rfl⟩ rfl (hb1.cell 1 rfl)) ?_
          refine WL_nil ?_
          refine W_cond rfl (fun h51 => ?_) (fun h51 => ?_)
          · have g51 := h51
            refine W_region ?_
            refine WL_val rfl rfl rfl (st_mv (v := .string _) rfl) ?_
            refine WL_val rfl rfl rfl (st_adds rfl rfl (by have := L3_size hl e3; show _ + 1 ≤ _; omega)) ?_
            refine WL_val rfl rfl rfl (st_as (v := .string _) rfl) ?_
            refine WL_nil ?_
            refine W_seq ?_
            refine W_region ?_
            refine WL_val rfl rfl rfl (st_mv (v := .string _) rfl) ?_
            refine WL_val rfl rfl rfl (st_as (v := .string _) rfl) ?_
            refine WL_nil ?_
            refine W_ret ?_
            refine qr1 ?_
            refine ⟨vstr (byts_ext ?_), hx0⟩
            show _ = globL ⟨rt, dr, ps⟩
            rw [globL_eq]
            unfold L4
            rw [if_pos h51]
            simp [byts] at e3 ⊢
            exact e3
          · have g51 := h51
            refine W_skip ?_
            refine W_seq ?_
            refine W_region ?_
            refine WL_val rfl rfl rfl (st_mv (v := .string _) rfl) ?_
            refine WL_val rfl rfl rfl (st_as (v := .string _) rfl) ?_
            refine WL_nil ?_
            refine W_ret ?_
            refine qr1 ?_
            refine ⟨vstr (byts_ext ?_), hx0⟩
            show _ = globL ⟨rt, dr, ps⟩
            rw [globL_eq]
            unfold L4
            rw [if_neg (by rw [show dr = false from h51]; simp)]
            exact e3
        · have g47 := h47
          refine W_skip ?_
          refine W_seq ?_
          refine W_seq ?_
          have e3 : byts s2 = L3 rt (L2 rt (L1 dr ps)) := by
            unfold L3
            rw [if_neg (by rw [show rt = false from h47]; simp)]
            exact e2
          generalize s2 = s3 at e3
          refine W_region ?_
          refine WL_val rfl rfl rfl (st_fieldAddr (off := 1) Tryd.underlying24 rfl rfl ti4 rfl) ?_
          refine WL_val rfl rfl rfl (st_load ⟨_, Tryd.underlying4, rfl⟩ rfl (hb1.cell 1 rfl)) ?_
          refine WL_nil ?_
          refine W_cond rfl (fun h51 => ?_) (fun h51 => ?_)
          · have g51 := h51
            refine W_region ?_
            refine WL_val rfl rfl rfl (st_mv (v := .string _) rfl) ?_
            refine WL_val rfl rfl rfl (st_adds rfl rfl (by have := L3_size hl e3; show _ + 1 ≤ _; omega)) ?_
            refine WL_val rfl rfl rfl (st_as (v := .string _) rfl) ?_
            refine WL_nil ?_
            refine W_seq ?_
            refine W_region ?_
            refine WL_val rfl rfl rfl (st_mv (v := .string _) rfl) ?_
            refine WL_val rfl rfl rfl (st_as (v := .string _) rfl) ?_
            refine WL_nil ?_
            refine W_ret ?_
            refine qr1 ?_
            refine ⟨vstr (byts_ext ?_), hx0⟩
            show _ = globL ⟨rt, dr, ps⟩
            rw [globL_eq]
            unfold L4
            rw [if_pos h51]
            simp [byts] at e3 ⊢
            exact e3
          · have g51 := h51
            refine W_skip ?_
            refine W_seq ?_
            refine W_region ?_
            refine WL_val rfl rfl rfl (st_mv (v := .string _) rfl) ?_
            refine WL_val rfl rfl rfl (st_as (v := .string _) rfl) ?_
            refine WL_nil ?_
            refine W_ret ?_
            refine qr1 ?_
            refine ⟨vstr (byts_ext ?_), hx0⟩
            show _ = globL ⟨rt, dr, ps⟩
            rw [globL_eq]
            unfold L4
            rw [if_neg (by rw [show dr = false from h51]; simp)]
            exact e3
    · have g40 := h40
      refine WL_pass rfl rfl rfl (congrArg Value.bool h40) rfl rfl ?_
      refine WL_pass rfl rfl rfl (congrArg Value.bool h40) rfl rfl ?_
      refine WL_val rfl rfl rfl (st_pk_f (v := (.bool false)) (congrArg Value.bool h40) rfl) ?_
      refine WL_nil ?_
      refine W_no rfl ?_
      refine W_skip ?_
      refine W_seq ?_
      refine W_seq ?_
      have e2 : byts s1 = L2 rt (L1 dr ps) := by
        unfold L2
        rw [if_neg (by rw [h40]; simp)]
        exact e1
      generalize s1 = s2 at e2
      refine W_region ?_
      refine WL_val rfl rfl rfl (st_fieldAddr (off := 0) Tryd.underlying24 rfl rfl ti4 rfl) ?_
      refine WL_val rfl rfl rfl (st_load ⟨_, Tryd.underlying4, rfl⟩ rfl (hb1.cell 0 rfl)) ?_
      refine WL_nil ?_
      refine W_cond rfl (fun h47 => ?_) (fun h47 => ?_)
      · have g47 := h47
        refine W_region ?_
        refine WL_val rfl rfl rfl (st_mv (v := .string _) rfl) ?_
        refine WL_val rfl rfl rfl (st_adds rfl rfl (by have := L2_size hl e2; show 1 + _ ≤ _; omega)) ?_
        refine WL_val rfl rfl rfl (st_as (v := .string _) rfl) ?_
        refine WL_nil ?_
        refine W_seq ?_
        refine W_seq ?_
        obtain ⟨s3, hs3⟩ : ∃ s, s = (⟨#[47]⟩ ++ s2 : ByteArray) := ⟨_, rfl⟩
        rw [← hs3]
        have e3 : byts s3 = L3 rt (L2 rt (L1 dr ps)) := by
          rw [hs3]
          unfold L3
          rw [if_pos h47]
          simp [byts] at e2 ⊢
          exact e2
        clear hs3
        refine W_region ?_
        refine WL_val rfl rfl rfl (st_fieldAddr (off := 1) Tryd.underlying24 rfl rfl ti4 rfl) ?_
        refine WL_val rfl rfl rfl (st_load ⟨_, Tryd.underlying4, rfl⟩ rfl (hb1.cell 1 rfl)) ?_
        refine WL_nil ?_
        refine W_cond rfl (fun h51 => ?_) (fun h51 => ?_)
        · have g51 := h51
          refine W_region ?_
          refine WL_val rfl rfl rfl (st_mv (v := .string _) rfl) ?_
          refine WL_val rfl rfl rfl (st_adds rfl rfl (by have := L3_size hl e3; show _ + 1 ≤ _; omega)) ?_
          refine WL_val rfl rfl rfl (st_as (v := .string _) rfl) ?_
          refine WL_nil ?_
          refine W_seq ?_
          refine W_region ?_
          refine WL_val rfl rfl rfl (st_mv (v := .string _) rfl) ?_
          refine WL_val rfl rfl rfl (st_as (v := .string _) rfl) ?_
          refine WL_nil ?_
          refine W_ret ?_
          refine qr1 ?_
          refine ⟨vstr (byts_ext ?_), hx0⟩
          show _ = globL ⟨rt, dr, ps⟩
          rw [globL_eq]
          unfold L4
          rw [if_pos h51]
          simp [byts] at e3 ⊢
          exact e3
        · have g51 := h51
          refine W_skip ?_
          refine W_seq ?_
          refine W_region ?_
          refine WL_val rfl rfl rfl (st_mv (v := .string _) rfl) ?_
          refine WL_val rfl rfl rfl (st_as (v := .string _) rfl) ?_
          refine WL_nil ?_
          refine W_ret ?_
          refine qr1 ?_
          refine ⟨vstr (byts_ext ?_), hx0⟩
          show _ = globL ⟨rt, dr, ps⟩
          rw [globL_eq]
          unfold L4
          rw [if_neg (by rw [show dr = false from h51]; simp)]
          exact e3
      · have g47 := h47
        refine W_skip ?_
        refine W_seq ?_
        refine W_seq ?_
        have e3 : byts s2 = L3 rt (L2 rt (L1 dr ps)) := by
          unfold L3
          rw [if_neg (by rw [show rt = false from h47]; simp)]
          exact e2
        generalize s2 = s3 at e3
        refine W_region ?_
        refine WL_val rfl rfl rfl (st_fieldAddr (off := 1) Tryd.underlying24 rfl rfl ti4 rfl) ?_
        refine WL_val rfl rfl rfl (st_load ⟨_, Tryd.underlying4, rfl⟩ rfl (hb1.cell 1 rfl)) ?_
        refine WL_nil ?_
        refine W_cond rfl (fun h51 => ?_) (fun h51 => ?_)
        · have g51 := h51
          refine W_region ?_
          refine WL_val rfl rfl rfl (st_mv (v := .string _) rfl) ?_
          refine WL_val rfl rfl rfl (st_adds rfl rfl (by have := L3_size hl e3; show _ + 1 ≤ _; omega)) ?_
          refine WL_val rfl rfl rfl (st_as (v := .string _) rfl) ?_
          refine WL_nil ?_
          refine W_seq ?_
          refine W_region ?_
          refine WL_val rfl rfl rfl (st_mv (v := .string _) rfl) ?_
          refine WL_val rfl rfl rfl (st_as (v := .string _) rfl) ?_
          refine WL_nil ?_
          refine W_ret ?_
          refine qr1 ?_
          refine ⟨vstr (byts_ext ?_), hx0⟩
          show _ = globL ⟨rt, dr, ps⟩
          rw [globL_eq]
          unfold L4
          rw [if_pos h51]
          simp [byts] at e3 ⊢
          exact e3
        · have g51 := h51
          refine W_skip ?_
          refine W_seq ?_
          refine W_region ?_
          refine WL_val rfl rfl rfl (st_mv (v := .string _) rfl) ?_
          refine WL_val rfl rfl rfl (st_as (v := .string _) rfl) ?_
          refine WL_nil ?_
          refine W_ret ?_
          refine qr1 ?_
          refine ⟨vstr (byts_ext ?_), hx0⟩
          show _ = globL ⟨rt, dr, ps⟩
          rw [globL_eq]
          unfold L4
          rw [if_neg (by rw [show dr = false from h51]; simp)]
          exact e3
theorem CheckGlob_ok (rt dr : Bool) (ps : List Part) (n : Nat) (v : Value) (w : World) (hn : n ≤ w.heap.size) (hps : PartsAt (· < n) w v ps) (hc : cntP ps ≤ 4611686018427387904) (hl : (printL false ps).length ≤ 1000000000) (htx : ∀ p ∈ ps, p.text.size ≤ 1099511627776) :
    Fun Tryd.prog 5 [.agg #[.bool rt, .bool dr, v]] w (fun r w' => r = .int .i64 (checkG ⟨rt, dr, ps⟩) ∧ Ext w w') := by
  obtain ⟨a, cp, rfl, hpl⟩ := hps.form
  have hx0 := Ext.refl w
  refine fun1 Tryd.func5 rfl (by kernel_rfl) rfl rfl rfl ?_
  refine W_seq ?_
  refine W_region ?_
  refine WL_ef (ef_box (cs := [_, _, _]) rfl) rfl rfl rfl ?_
  rintro _ w2 ⟨b1, rfl, hl1, hb1, hx3⟩
  replace hx0 := hx0.ext hx3
  replace hps := hps.ext hx3
  refine WL_val rfl rfl rfl (st_as (v := (.int .i64 0)) rfl) ?_
  refine WL_nil ?_
  refine W_seq ?_
  refine W_region ?_
  refine WL_val rfl rfl rfl (st_fieldAddr (off := 2) Tryd.underlying24 rfl rfl ti22 rfl) ?_
  refine WL_val rfl rfl rfl (st_load ⟨_, Tryd.underlying22, rfl⟩ rfl (hb1.cell 2 rfl)) ?_
  refine WL_call rfl rfl rfl (partCount_ok _ ps (Nat.lt_succ_self _) hc _ _ _ hps) (ent_go rfl) ?_
  rintro _ w4 ⟨rfl, hx5⟩
  replace hx0 := hx0.ext hx5
  replace hps := hps.ext hx5
  replace hb1 := hb1.ext hx5
  refine WL_val rfl rfl rfl (st_mv (v := .tuple #[.int .i64 _, .int .i64 _]) rfl) ?_
  refine WL_val rfl rfl rfl (st_extract rfl rfl) ?_
  refine WL_val rfl rfl rfl (st_extract rfl rfl) ?_
  refine WL_val rfl rfl rfl (st_as (v := .int _ _) rfl) ?_
  refine WL_val rfl rfl rfl (st_as (v := .int _ _) rfl) ?_
  refine WL_nil ?_
  refine W_seq ?_
  refine W_seq ?_
  refine W_region ?_
  refine WL_val rfl rfl rfl (st_mv (v := .int _ _) rfl) ?_
  refine WL_val rfl rfl rfl (st_gtr rfl rfl) ?_
  refine WL_val rfl rfl rfl (st_mv (v := .bool _) rfl) ?_
  refine WL_split 14 rfl (fun h14 => ?_) (fun h14 => ?_)
  · have g14 := of_decide_eq_true h14
    refine WL_pass rfl rfl rfl (congrArg Value.bool h14) rfl rfl ?_
    refine WL_pass rfl rfl rfl (congrArg Value.bool h14) rfl rfl ?_
    refine WL_val rfl rfl rfl (st_pk_t (v := (.bool true)) (congrArg Value.bool h14) rfl) ?_
    refine WL_nil ?_
    refine W_yes rfl ?_
    refine W_seq ?_
    refine W_region ?_
    refine WL_val rfl rfl rfl (st_as (v := (.int .i64 8)) rfl) ?_
    refine WL_nil ?_
    refine W_ret ?_
    refine qr1 ?_
    exact ⟨vint (by unfold checkG; rw [if_pos (by left; show 200 < cntP ps; omega)]), hx0⟩
  · have g14 := of_decide_eq_false h14
    refine WL_valg rfl rfl rfl (congrArg Value.bool h14) rfl rfl (st_mv (v := .int _ _) rfl) ?_
    refine WL_valg rfl rfl rfl (congrArg Value.bool h14) rfl rfl (st_gtr rfl rfl) ?_
    refine WL_val rfl rfl rfl (st_pk_f (v := .bool _) (congrArg Value.bool h14) rfl) ?_
    refine WL_nil ?_
    refine W_cond rfl (fun h17 => ?_) (fun h17 => ?_)
    · have g17 := of_decide_eq_true h17
      refine W_seq ?_
      refine W_region ?_
      refine WL_val rfl rfl rfl (st_as (v := (.int .i64 8)) rfl) ?_
      refine WL_nil ?_
      refine W_ret ?_
      refine qr1 ?_
      exact ⟨vint (by unfold checkG; rw [if_pos (by right; show 5 < depP ps; omega)]), hx0⟩
    · have g17 := of_decide_eq_false h17
      refine W_skip ?_
      refine W_seq ?_
      refine W_seq ?_
      have hA : ¬ (200 < cntP ps ∨ 5 < depP ps) := by omega
      refine W_region ?_
      refine WL_val rfl rfl rfl (st_fieldAddr (off := 2) Tryd.underlying24 rfl rfl ti22 rfl) ?_
      refine WL_val rfl rfl rfl (st_load ⟨_, Tryd.underlying22, rfl⟩ rfl (hb1.cell 2 rfl)) ?_
      refine WL_call rfl rfl rfl (checkParts_ok _ ps (Nat.lt_succ_self _) _ _ _ hps) (ent_go rfl) ?_
      rintro _ w6 ⟨rfl, hx7⟩
      replace hx0 := hx0.ext hx7
      replace hps := hps.ext hx7
      replace hb1 := hb1.ext hx7
      refine WL_val rfl rfl rfl (st_as (v := .int _ _) rfl) ?_
      refine WL_nil ?_
      refine W_seq ?_
      refine W_region ?_
      refine WL_val rfl rfl rfl (st_mv (v := .int _ _) rfl) ?_
      refine WL_val rfl rfl rfl (st_neq rfl rfl) ?_
      refine WL_nil ?_
      refine W_cond rfl (fun h22 => ?_) (fun h22 => ?_)
      · have g22 := of_decide_eq_true h22
        refine W_seq ?_
        refine W_region ?_
        refine WL_val rfl rfl rfl (st_mv (v := .int _ _) rfl) ?_
        refine WL_val rfl rfl rfl (st_as (v := .int _ _) rfl) ?_
        refine WL_nil ?_
        refine W_ret ?_
        refine qr1 ?_
        exact ⟨vint (by unfold checkG; rw [if_neg hA, if_pos g22]), hx0⟩
      · have g22 := of_decide_eq_false h22
        refine W_skip ?_
        refine W_seq ?_
        refine W_block ?_
        refine W_seq ?_
        refine W_region ?_
        refine WL_val rfl rfl rfl (st_fieldAddr (off := 2) Tryd.underlying24 rfl rfl ti22 rfl) ?_
        refine WL_val rfl rfl rfl (st_load ⟨_, Tryd.underlying22, rfl⟩ rfl (hb1.cell 2 rfl)) ?_
        refine WL_val rfl rfl rfl (st_len Tryd.underlying22 rfl) ?_
        refine WL_val rfl rfl rfl (st_eql rfl rfl) ?_
        refine WL_val rfl rfl rfl (st_as (v := .bool _) rfl) ?_
        refine WL_nil ?_
        refine W_cond rfl (fun h24 => ?_) (fun h24 => ?_)
        · have g24 := of_decide_eq_true h24
          refine W_seq ?_
          refine W_region ?_
          refine WL_val rfl rfl rfl (st_as (v := (.int .i64 21)) rfl) ?_
          refine WL_nil ?_
          refine W_ret ?_
          refine qr1 ?_
          exact ⟨vint (by unfold checkG; rw [if_neg hA, if_neg g22, if_pos (by show ps.length = 0; omega)]), hx0⟩
        · have g24 := of_decide_eq_false h24
          refine W_seq ?_
          refine W_region ?_
          refine WL_val rfl rfl rfl (st_fieldAddr (off := 2) Tryd.underlying24 rfl rfl ti22 rfl) ?_
          refine WL_val rfl rfl rfl (st_load ⟨_, Tryd.underlying22, rfl⟩ rfl (hb1.cell 2 rfl)) ?_
          refine WL_call rfl rfl rfl (starsMeet_ok _ ps (Nat.lt_succ_self _) _ _ _ hps) (ent_go rfl) ?_
          rintro _ w8 ⟨rfl, hx9⟩
          replace hx0 := hx0.ext hx9
          replace hps := hps.ext hx9
          replace hb1 := hb1.ext hx9
          refine WL_val rfl rfl rfl (st_as (v := .bool _) rfl) ?_
          refine WL_nil ?_
          refine W_cond rfl (fun h29 => ?_) (fun h29 => ?_)
          · have g29 := h29
            refine W_seq ?_
            refine W_region ?_
            refine WL_val rfl rfl rfl (st_as (v := (.int .i64 6)) rfl) ?_
            refine WL_nil ?_
            refine W_ret ?_
            refine qr1 ?_
            exact ⟨vint (by unfold checkG; rw [if_neg hA, if_neg g22, if_neg (by show ¬ ps.length = 0; omega), if_pos g29]), hx0⟩
          · have g29 := h29
            refine W_seq ?_
            refine W_region ?_
            refine WL_val rfl rfl rfl (st_loada ⟨_, Tryd.underlying24, rfl⟩ ti24 rfl hb1.cells rfl) ?_
            refine WL_call rfl rfl rfl (globText_ok rt dr ps n _ _ (by have := hx0.size; omega) hps (by omega) hl htx) (ent_go rfl) ?_
            rintro _ w10 ⟨rfl, hx11⟩
            replace hx0 := hx0.ext hx11
            replace hps := hps.ext hx11
            replace hb1 := hb1.ext hx11
            refine WL_val rfl rfl rfl (st_lens Tryd.underlying9 rfl) ?_
            refine WL_val rfl rfl rfl (st_gtr rfl rfl) ?_
            refine WL_val rfl rfl rfl (st_as (v := .bool _) rfl) ?_
            refine WL_nil ?_
            refine W_cond rfl (fun h33 => ?_) (fun h33 => ?_)
            · have g33 := of_decide_eq_true h33
              refine W_seq ?_
              refine W_region ?_
              refine WL_val rfl rfl rfl (st_as (v := (.int .i64 8)) rfl) ?_
              refine WL_nil ?_
              refine W_ret ?_
              refine qr1 ?_
              rw [mk_size] at g33
              exact ⟨vint (by unfold checkG; rw [if_neg hA, if_neg g22, if_neg (by show ¬ ps.length = 0; omega), if_neg (by rw [g29]; simp), if_pos (by omega)]), hx0⟩
            · have g33 := of_decide_eq_false h33
              refine W_skip ?_
              refine W_seq ?_
              refine W_region ?_
              refine WL_val rfl rfl rfl (st_as (v := (.int .i64 0)) rfl) ?_
              refine WL_nil ?_
              refine W_ret ?_
              refine qr1 ?_
              rw [mk_size] at g33
              exact ⟨vint (by unfold checkG; rw [if_neg hA, if_neg g22, if_neg (by show ¬ ps.length = 0; omega), if_neg (by rw [g29]; simp), if_neg (by omega)]), hx0⟩
end Go.Proofs.YtndfhicdabdafaaDoor
