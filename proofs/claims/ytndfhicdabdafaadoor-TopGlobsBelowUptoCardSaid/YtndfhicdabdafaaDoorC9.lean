/- Walks of IndexRune at two signs, of IndexAny, isName, Check. -/
import Derived.Test.YtndfhicdabdafaaDoorL
import Derived.Test.YtndfhicdabdafaaDoorC8
namespace Go.Proofs.YtndfhicdabdafaaDoor
open Go Go.RowKit

theorem byteI_nat (r : Int) (h0 : 0 ≤ r) (h1 : r < 256) : ((byteI r).toNat : Int) = r := by
  rw [← byteI_wrap]
  simp [IntKind.wrap, IntKind.bits, IntKind.signed]
  omega
theorem two_iff (r : Int) (h0 : 0 ≤ r) (h1 : r < 128) : byteI r ∈ byts ⟨#[0, 47]⟩ ↔ r = 0 ∨ r = 47 := by
  have e := byteI_nat r h0 (by omega)
  show byteI r ∈ [(0 : UInt8), 47] ↔ _
  simp only [List.mem_cons, List.not_mem_nil, or_false, ← UInt8.toNat_inj]
  have e0 : (0 : UInt8).toNat = 0 := rfl
  have e1 : (47 : UInt8).toNat = 47 := rfl
  rw [e0, e1]
  omega
theorem encode_high (r : Int) (h : 128 ≤ r) : 2 ≤ (Utf8.encode r).size ∧ (Utf8.encode r).size ≤ 4 ∧ ∀ hh, 128 ≤ ((Utf8.encode r)[(Utf8.encode r).size - 1]'hh).toNat := by
  have H : ∀ en, Utf8.encode r = en → 2 ≤ en.size ∧ en.size ≤ 4 ∧ ∀ hh, 128 ≤ (en[en.size - 1]'hh).toNat := by
    intro en he
    have hc : 128 ≤ (if Utf8.valid r then r.toNat else Utf8.runeError) := by
      split
      · omega
      · decide
    unfold Utf8.encode at he
    generalize (if Utf8.valid r then r.toNat else Utf8.runeError) = c at hc he
    have h128 : ∀ x : Nat, 128 ≤ (UInt8.ofNat (128 + x % 64)).toNat := by
      intro x
      rw [UInt8.toNat_ofNat']
      omega
    simp only [] at he
    rw [if_neg (by omega)] at he
    split at he
    · subst he; exact ⟨(by decide : 2 ≤ 2), (by decide : 2 ≤ 4), fun _ => h128 c⟩
    · split at he
      · subst he; exact ⟨(by decide : 2 ≤ 3), (by decide : 3 ≤ 4), fun _ => h128 c⟩
      · subst he; exact ⟨(by decide : 2 ≤ 4), (by decide : 4 ≤ 4), fun _ => h128 c⟩
  exact H _ rfl
theorem indexRune_ok (r : Int) (h0 : 0 ≤ r) (h1 : r ≤ 2147483647) (w : World) :
    Fun Tryd.prog 66 [.string ⟨#[0, 47]⟩, .int .i32 r] w (fun v w' => ∃ x, v = .int .i64 x ∧ (0 ≤ x ↔ r = 0 ∨ r = 47) ∧ Ext w w') := by
  have hx0 := Ext.refl w
  refine fun1 Tryd.func66 rfl (by kernel_rfl) rfl rfl rfl ?_
  refine W_seq ?_
  refine W_region ?_
  refine WL_val rfl rfl rfl (st_as (v := (.int .i64 0)) rfl) ?_
  refine WL_nil ?_
  refine W_block ?_
  refine W_seq ?_
  refine W_region ?_
  refine WL_val rfl rfl rfl (st_mv (v := .int _ _) rfl) ?_
  refine WL_val rfl rfl rfl (st_leq rfl rfl) ?_
  refine WL_val rfl rfl rfl (st_mv (v := .bool _) rfl) ?_
  refine WL_split 163 rfl (fun h163 => ?_) (fun h163 => ?_)
  · have g163 := of_decide_eq_true h163
    refine WL_valg rfl rfl rfl (congrArg Value.bool h163) rfl rfl (st_mv (v := .int _ _) rfl) ?_
    refine WL_valg rfl rfl rfl (congrArg Value.bool h163) rfl rfl (st_lss rfl rfl) ?_
    refine WL_val rfl rfl rfl (st_pk_t (v := .bool _) (congrArg Value.bool h163) rfl) ?_
    refine WL_val rfl rfl rfl (st_as (v := .bool _) rfl) ?_
    refine WL_nil ?_
    refine W_cond rfl (fun h160 => ?_) (fun h160 => ?_)
    · have g160 := of_decide_eq_true h160
      refine W_seq ?_
      refine W_region ?_
      refine WL_val rfl rfl rfl (st_mv (v := .string _) rfl) ?_
      refine WL_val rfl rfl rfl (st_mv (v := .int _ _) rfl) ?_
      refine WL_val (v := .int .u8 ((byteI r).toNat : Int)) rfl rfl rfl (by rw [← byteI_wrap]; exact st_convi ⟨_, Tryd.underlying21⟩ Tryd.underlying5 rfl) ?_
      refine WL_call rfl rfl rfl (str_indexByte (⟨#[0, 47]⟩ : ByteArray) (byteI r) _) (ent_go rfl) ?_
      rintro _ w1 ⟨rfl, rfl⟩
      refine WL_val rfl rfl rfl (st_as (v := .int _ _) rfl) ?_
      refine WL_nil ?_
      refine W_ret ?_
      refine qr1 ?_
      exact ⟨_, rfl, (firstIdx_iff _ _).trans (two_iff r h0 (by omega)), hx0⟩
    · have g160 := of_decide_eq_false h160
      refine W_seq ?_
      refine W_region ?_
      refine WL_val rfl rfl rfl (st_mv (v := .int _ _) rfl) ?_
      refine WL_val rfl rfl rfl (st_eql rfl rfl) ?_
      refine WL_val rfl rfl rfl (st_as (v := .bool _) rfl) ?_
      refine WL_nil ?_
      refine W_cond rfl (fun h171 => ?_) (fun h171 => ?_)
      · have g171 := of_decide_eq_true h171
        refine W_seq ?_
        refine W_seq ?_
        refine W_region ?_
        refine WL_val rfl rfl rfl (st_mv (v := .string _) rfl) ?_
        refine WL_ef (ef_range Tryd.underlying9 rfl) rfl rfl rfl ?_
        rintro _ wr ⟨it, rfl, hlt, hit, hxr⟩
        have hszr := hx0.size
        replace hx0 := hx0.ext hxr
        refine WL_nil ?_
        refine W_block ?_
        refine W_loop [] [4, 5, 6, 176, 177, 178, 179, 180, 181, 182] (fun m vs w1 => ∃ k, k + m = 2 ∧ vs = [] ∧ Itr w1 it (⟨#[0, 47]⟩ : ByteArray) k ∧ Ext w w1) ?_ ?_
        · exact ⟨2, 0, rfl, rfl, hit, hx0⟩
        · intro m vs w3 u hI
          obtain ⟨k, hk, rfl, hit, hx0⟩ := hI
          refine W_seq ?_
          refine W_region ?_
          rcases Nat.lt_or_ge k 2 with hp | hp
          · refine WL_ef (ef_next rfl hit hp) rfl rfl rfl ?_
            rintro _ wn ⟨rfl, hit, hfn⟩
            have hx0 : Ext w wn := hx0.trans' hfn (fun _ _ f => f) (fun k hk e => by have e' : k = it := e; omega)
            refine WL_val rfl rfl rfl (st_extract rfl rfl) ?_
            refine WL_nil ?_
            refine W_seq ?_
            refine W_yes rfl ?_
            refine W_skip ?_
            refine W_block ?_
            refine W_seq ?_
            refine W_region ?_
            refine WL_val rfl rfl rfl (st_extract rfl rfl) ?_
            refine WL_val rfl rfl rfl (st_extract rfl rfl) ?_
            refine WL_val rfl rfl rfl (st_as (v := .int _ _) rfl) ?_
            refine WL_val rfl rfl rfl (st_as (v := .int _ _) rfl) ?_
            refine WL_nil ?_
            refine W_seq ?_
            have hw1 : (Utf8.decode (⟨#[0, 47]⟩ : ByteArray) k).2 = 1 := by rcases (show k = 0 ∨ k = 1 by omega) with rfl | rfl <;> decide
            have hne : ¬ (((Utf8.decode (⟨#[0, 47]⟩ : ByteArray) k).1 : Nat) : Int) = 65533 := by rcases (show k = 0 ∨ k = 1 by omega) with rfl | rfl <;> decide
            refine W_region ?_
            refine WL_val rfl rfl rfl (st_mv (v := .int _ _) rfl) ?_
            refine WL_val rfl rfl rfl (st_eql rfl rfl) ?_
            refine WL_nil ?_
            refine W_no (congrArg Value.bool (decide_eq_false hne)) ?_
            refine W_skip ?_
            refine Blo_n ?_
            refine rnd_end ?_ (m - 1) ?_ ?_
            · repeat (first | exact agree_in rfl rfl (agree_refl _ _) | exact agree_refl _ _ | refine agree_in rfl rfl ?_ | refine agree_upd rfl ?_)
            · omega
            · exact ⟨k + 1, by omega, rfl, by rw [hw1] at hit; exact hit, hx0⟩
          · refine WL_val rfl rfl rfl (st_next_end rfl hit (by show ¬ k < 2; omega)) ?_
            refine WL_val rfl rfl rfl (st_extract rfl rfl) ?_
            refine WL_nil ?_
            refine W_seq ?_
            refine W_no rfl ?_
            refine W_exit ?_
            refine W_seq ?_
            refine W_region ?_
            refine WL_val rfl rfl rfl (st_as (v := (.int .i64 (-1))) rfl) ?_
            refine WL_nil ?_
            refine W_ret ?_
            refine qr1 ?_
            exact ⟨_, rfl, ⟨fun h => by omega, fun h => by omega⟩, hx0⟩
      · have g171 := of_decide_eq_false h171
        refine W_seq ?_
        refine W_region ?_
        refine WL_val rfl rfl rfl (st_mv (v := .int _ _) rfl) ?_
        refine WL_call rfl rfl rfl (validRune_ok r _) (ent_go rfl) ?_
        rintro _ w4 ⟨rfl, rfl⟩
        refine WL_val rfl rfl rfl (st_not rfl) ?_
        refine WL_val rfl rfl rfl (st_as (v := .bool _) rfl) ?_
        refine WL_nil ?_
        refine W_cond rfl (fun h183 => ?_) (fun h183 => ?_)
        · have g183 := h183
          refine W_seq ?_
          refine W_region ?_
          refine WL_val rfl rfl rfl (st_as (v := (.int .i64 (-1))) rfl) ?_
          refine WL_nil ?_
          refine W_ret ?_
          refine qr1 ?_
          exact ⟨_, rfl, ⟨fun h => by omega, fun h => by omega⟩, hx0⟩
        · have g183 := h183
          refine W_scope ?_
          refine W_seq ?_
          refine W_region ?_
          refine WL_val rfl rfl rfl (st_mv (v := .int _ _) rfl) ?_
          refine WL_val rfl rfl rfl (st_conv rfl (run_convert_rune Tryd.underlying21 Tryd.underlying9)) ?_
          refine WL_val rfl rfl rfl (st_as (v := .string _) rfl) ?_
          refine WL_nil ?_
          refine W_seq ?_
          obtain ⟨he1, he2, he3⟩ := encode_high r (by omega)
          generalize Utf8.encode r = en at he1 he2 he3
          refine W_region ?_
          refine WL_val rfl rfl rfl (st_mv (v := .string _) rfl) ?_
          refine WL_val rfl rfl rfl (st_lens Tryd.underlying9 rfl) ?_
          refine WL_val rfl rfl rfl (st_sub rfl rfl (by omega) (by omega)) ?_
          refine WL_val rfl rfl rfl (st_as (v := .int _ _) rfl) ?_
          refine WL_nil ?_
          refine W_seq ?_
          refine W_region ?_
          refine WL_val rfl rfl rfl (st_mv (v := .int _ _) rfl) ?_
          refine WL_val rfl rfl rfl (st_as (v := .int _ _) rfl) ?_
          refine WL_nil ?_
          refine W_seq ?_
          refine W_region ?_
          refine WL_val rfl rfl rfl (st_as (v := (.int .i64 0)) rfl) ?_
          refine WL_nil ?_
          refine W_seq ?_
          refine W_block ?_
          refine W_loop [9] [4, 9, 10, 11, 12, 23, 24, 25, 26, 27, 28, 29, 30, 31, 32, 33, 34, 35, 36, 37, 38, 39, 40, 41, 42, 43, 44, 45, 46, 47, 48, 49, 50, 51, 52, 53, 54, 55, 56, 57, 58, 59, 60, 61, 62, 63, 64, 65, 66, 67, 68, 69, 70, 71, 72, 73, 74, 75, 76, 77, 78, 79, 80, 81, 82, 83, 84, 85, 86, 87, 88, 89, 90, 91, 92, 93, 94, 95, 96, 97, 98] (fun m vs w1 => vs = [.int .i64 ((en.size : Int) - 1)] ∧ Ext w w1) ?_ ?_
          · exact ⟨0, rfl, hx0⟩
          · intro m vs w6 u hI
            obtain ⟨rfl, hx0⟩ := hI
            refine W_seq ?_
            refine W_seq ?_
            refine W_region ?_
            refine WL_val rfl rfl rfl (st_mv (v := .int _ _) rfl) ?_
            refine WL_val rfl rfl rfl (st_mv (v := .string _) rfl) ?_
            refine WL_val rfl rfl rfl (st_lens Tryd.underlying9 rfl) ?_
            refine WL_val rfl rfl rfl (st_lss rfl rfl) ?_
            refine WL_nil ?_
            refine W_cond rfl (fun h26 => ?_) (fun h26 => ?_)
            · have g26 := of_decide_eq_true h26
              have h2 : en.size = 2 := by have : ((2 : Nat) : Int) = 2 := rfl; have e : ((⟨#[0, 47]⟩ : ByteArray)).size = 2 := rfl; rw [e] at g26; omega
              have hc1 : ∀ h, ((⟨#[0, 47]⟩ : ByteArray))[en.size - 1]'h = 47 := by rw [h2]; intro h; rfl
              have hsz : en.size - 1 < ((⟨#[0, 47]⟩ : ByteArray)).size := by rw [h2]; decide
              have hsz2 : en.size - 1 < en.size := by omega
              have hv1 : Value.int .i64 ((en.size : Int) - 1) = Value.int .i64 ((en.size - 1 : Nat) : Int) := vint (by omega)
              have hemp : ((⟨#[0, 47]⟩ : ByteArray)).extract en.size ((⟨#[0, 47]⟩ : ByteArray)).size = ⟨#[]⟩ := by rw [h2]; rfl
              refine W_skip ?_
              refine W_block ?_
              refine W_scope ?_
              refine W_seq ?_
              refine W_seq ?_
              refine W_quiet (Ext w6) mixed (by kernel_rfl) ((Ext.refl _).drew _) ?_
              refine WQ_val rfl rfl rfl (fun _ _ => st_mv (v := .string _) rfl) ?_
              refine WQ_val rfl rfl rfl (fun _ _ => st_mv (v := .int _ _) rfl) ?_
              refine WQ_val rfl rfl rfl (fun _ _ => st_index (k := .i64) (i := en.size - 1) Tryd.underlying9 rfl (by exact hv1) hsz) ?_
              refine WQ_val rfl rfl rfl (fun _ _ => st_mv (v := .string _) rfl) ?_
              refine WQ_val rfl rfl rfl (fun _ _ => st_mv (v := .int _ _) rfl) ?_
              refine WQ_val rfl rfl rfl (fun _ _ => st_index (s := en) (k := .i64) (i := en.size - 1) Tryd.underlying9 rfl (by exact hv1) hsz2) ?_
              refine WQ_val rfl rfl rfl (fun _ _ => st_neq rfl rfl) ?_
              refine WQ_nil ?_
              intro w7 hx8
              replace hx0 := hx0.ext hx8
              refine W_cond rfl (fun h33 => ?_) (fun h33 => ?_)
              · have g33 := of_decide_eq_true h33
                refine W_seq ?_
                refine W_quiet (Ext w7) mixed (by kernel_rfl) ((Ext.refl _).drew _) ?_
                refine WQ_val rfl rfl rfl (fun _ _ => st_mv (v := .string _) rfl) ?_
                refine WQ_val rfl rfl rfl (fun _ _ => st_mv (v := .int _ _) rfl) ?_
                refine WQ_val rfl rfl rfl (fun _ _ => st_add rfl rfl (by omega) (by omega)) ?_
                refine WQ_val rfl rfl rfl (fun _ _ => st_slices (a := en.size) (b := ((⟨#[0, 47]⟩ : ByteArray)).size) Tryd.underlying9 rfl (.inr (congrArg some (by exact vint (by omega)))) (.inl ⟨rfl, rfl⟩) (by rw [h2]; decide) (Nat.le_refl _)) ?_
                refine WQ_val rfl rfl rfl (fun _ _ => st_mv (v := .string _) rfl) ?_
                refine WQ_val rfl rfl rfl (fun _ _ => st_mv (v := .int _ _) rfl) ?_
                refine WQ_val rfl rfl rfl (fun _ _ => st_index (s := en) (k := .i64) (i := en.size - 1) Tryd.underlying9 rfl (by exact hv1) hsz2) ?_
                refine WQ_call rfl rfl rfl (fun w' hx' => ((str_indexByte (((⟨#[0, 47]⟩ : ByteArray)).extract en.size ((⟨#[0, 47]⟩ : ByteArray)).size) en[en.size - 1] w').mono (by rintro _ _ ⟨rfl, rfl⟩; exact ⟨rfl, hx'⟩))) (fun h _ => (ent_go rfl) h) ?_
                refine WQ_val rfl rfl rfl (fun _ _ => st_as (v := .int _ _) rfl) ?_
                refine WQ_nil ?_
                intro w9 hx10
                replace hx0 := hx0.ext hx10
                refine W_seq ?_
                refine W_seq ?_
                refine W_region ?_
                refine WL_val rfl rfl rfl (st_mv (v := .int _ _) rfl) ?_
                refine WL_val rfl rfl rfl (st_lss rfl rfl) ?_
                refine WL_nil ?_
                refine W_cond rfl (fun h43 => ?_) (fun h43 => ?_)
                · have g43 := of_decide_eq_true h43
                  refine W_seq ?_
                  refine W_region ?_
                  refine WL_val rfl rfl rfl (st_as (v := (.int .i64 (-1))) rfl) ?_
                  refine WL_nil ?_
                  refine W_ret ?_
                  refine qr1 ?_
                  exact ⟨_, rfl, ⟨fun h => by omega, fun h => by omega⟩, hx0⟩
                · have g43 := of_decide_eq_false h43
                  exfalso
                  have g43 := of_decide_eq_false h43
                  have h7 := (firstIdx_iff _ _).1 (by omega : 0 ≤ firstIdx (((⟨#[0, 47]⟩ : ByteArray)).extract en.size ((⟨#[0, 47]⟩ : ByteArray)).size) en[en.size - 1])
                  rw [hemp] at h7
                  cases h7
              · have g33 := of_decide_eq_false h33
                exfalso
                have g33 := of_decide_eq_false h33
                rw [hc1] at g33
                have := he3 (by omega)
                have e47 : ((47 : UInt8).toNat : Int) = 47 := rfl
                omega
            · have g26 := of_decide_eq_false h26
              refine W_exit ?_
              refine W_seq ?_
              refine W_seq ?_
              refine W_region ?_
              refine WL_val rfl rfl rfl (st_as (v := (.int .i64 (-1))) rfl) ?_
              refine WL_nil ?_
              refine W_ret ?_
              refine qr1 ?_
              exact ⟨_, rfl, ⟨fun h => by omega, fun h => by omega⟩, hx0⟩
  · have g163 := of_decide_eq_false h163
    refine WL_pass rfl rfl rfl (congrArg Value.bool h163) rfl rfl ?_
    refine WL_pass rfl rfl rfl (congrArg Value.bool h163) rfl rfl ?_
    refine WL_val rfl rfl rfl (st_pk_f (v := (.bool false)) (congrArg Value.bool h163) rfl) ?_
    refine WL_val rfl rfl rfl (st_as (v := .bool _) rfl) ?_
    refine WL_nil ?_
    refine W_no rfl ?_
    refine W_seq ?_
    refine W_region ?_
    refine WL_val rfl rfl rfl (st_mv (v := .int _ _) rfl) ?_
    refine WL_val rfl rfl rfl (st_eql rfl rfl) ?_
    refine WL_val rfl rfl rfl (st_as (v := .bool _) rfl) ?_
    refine WL_nil ?_
    refine W_cond rfl (fun h171 => ?_) (fun h171 => ?_)
    · have g171 := of_decide_eq_true h171
      refine W_seq ?_
      refine W_seq ?_
      refine W_region ?_
      refine WL_val rfl rfl rfl (st_mv (v := .string _) rfl) ?_
      refine WL_ef (ef_range Tryd.underlying9 rfl) rfl rfl rfl ?_
      rintro _ wr ⟨it, rfl, hlt, hit, hxr⟩
      have hszr := hx0.size
      replace hx0 := hx0.ext hxr
      refine WL_nil ?_
      refine W_block ?_
      refine W_loop [] [4, 5, 6, 176, 177, 178, 179, 180, 181, 182] (fun m vs w1 => ∃ k, k + m = 2 ∧ vs = [] ∧ Itr w1 it (⟨#[0, 47]⟩ : ByteArray) k ∧ Ext w w1) ?_ ?_
      · exact ⟨2, 0, rfl, rfl, hit, hx0⟩
      · intro m vs w11 u hI
        obtain ⟨k, hk, rfl, hit, hx0⟩ := hI
        refine W_seq ?_
        refine W_region ?_
        rcases Nat.lt_or_ge k 2 with hp | hp
        · refine WL_ef (ef_next rfl hit hp) rfl rfl rfl ?_
          rintro _ wn ⟨rfl, hit, hfn⟩
          have hx0 : Ext w wn := hx0.trans' hfn (fun _ _ f => f) (fun k hk e => by have e' : k = it := e; omega)
          refine WL_val rfl rfl rfl (st_extract rfl rfl) ?_
          refine WL_nil ?_
          refine W_seq ?_
          refine W_yes rfl ?_
          refine W_skip ?_
          refine W_block ?_
          refine W_seq ?_
          refine W_region ?_
          refine WL_val rfl rfl rfl (st_extract rfl rfl) ?_
          refine WL_val rfl rfl rfl (st_extract rfl rfl) ?_
          refine WL_val rfl rfl rfl (st_as (v := .int _ _) rfl) ?_
          refine WL_val rfl rfl rfl (st_as (v := .int _ _) rfl) ?_
          refine WL_nil ?_
          refine W_seq ?_
          have hw1 : (Utf8.decode (⟨#[0, 47]⟩ : ByteArray) k).2 = 1 := by rcases (show k = 0 ∨ k = 1 by omega) with rfl | rfl <;> decide
          have hne : ¬ (((Utf8.decode (⟨#[0, 47]⟩ : ByteArray) k).1 : Nat) : Int) = 65533 := by rcases (show k = 0 ∨ k = 1 by omega) with rfl | rfl <;> decide
          refine W_region ?_
          refine WL_val rfl rfl rfl (st_mv (v := .int _ _) rfl) ?_
          refine WL_val rfl rfl rfl (st_eql rfl rfl) ?_
          refine WL_nil ?_
          refine W_no (congrArg Value.bool (decide_eq_false hne)) ?_
          refine W_skip ?_
          refine Blo_n ?_
          refine rnd_end ?_ (m - 1) ?_ ?_
          · repeat (first | exact agree_in rfl rfl (agree_refl _ _) | exact agree_refl _ _ | refine agree_in rfl rfl ?_ | refine agree_upd rfl ?_)
          · omega
          · exact ⟨k + 1, by omega, rfl, by rw [hw1] at hit; exact hit, hx0⟩
        · refine WL_val rfl rfl rfl (st_next_end rfl hit (by show ¬ k < 2; omega)) ?_
          refine WL_val rfl rfl rfl (st_extract rfl rfl) ?_
          refine WL_nil ?_
          refine W_seq ?_
          refine W_no rfl ?_
          refine W_exit ?_
          refine W_seq ?_
          refine W_region ?_
          refine WL_val rfl rfl rfl (st_as (v := (.int .i64 (-1))) rfl) ?_
          refine WL_nil ?_
          refine W_ret ?_
          refine qr1 ?_
          exact ⟨_, rfl, ⟨fun h => by omega, fun h => by omega⟩, hx0⟩
    · have g171 := of_decide_eq_false h171
      refine W_seq ?_
      refine W_region ?_
      refine WL_val rfl rfl rfl (st_mv (v := .int _ _) rfl) ?_
      refine WL_call rfl rfl rfl (validRune_ok r _) (ent_go rfl) ?_
      rintro _ w12 ⟨rfl, rfl⟩
      refine WL_val rfl rfl rfl (st_not rfl) ?_
      refine WL_val rfl rfl rfl (st_as (v := .bool _) rfl) ?_
      refine WL_nil ?_
      refine W_cond rfl (fun h183 => ?_) (fun h183 => ?_)
      · have g183 := h183
        refine W_seq ?_
        refine W_region ?_
        refine WL_val rfl rfl rfl (st_as (v := (.int .i64 (-1))) rfl) ?_
        refine WL_nil ?_
        refine W_ret ?_
        refine qr1 ?_
        exact ⟨_, rfl, ⟨fun h => by omega, fun h => by omega⟩, hx0⟩
      · have g183 := h183
        refine W_scope ?_
        refine W_seq ?_
        refine W_region ?_
        refine WL_val rfl rfl rfl (st_mv (v := .int _ _) rfl) ?_
        refine WL_val rfl rfl rfl (st_conv rfl (run_convert_rune Tryd.underlying21 Tryd.underlying9)) ?_
        refine WL_val rfl rfl rfl (st_as (v := .string _) rfl) ?_
        refine WL_nil ?_
        refine W_seq ?_
        obtain ⟨he1, he2, he3⟩ := encode_high r (by omega)
        generalize Utf8.encode r = en at he1 he2 he3
        refine W_region ?_
        refine WL_val rfl rfl rfl (st_mv (v := .string _) rfl) ?_
        refine WL_val rfl rfl rfl (st_lens Tryd.underlying9 rfl) ?_
        refine WL_val rfl rfl rfl (st_sub rfl rfl (by omega) (by omega)) ?_
        refine WL_val rfl rfl rfl (st_as (v := .int _ _) rfl) ?_
        refine WL_nil ?_
        refine W_seq ?_
        refine W_region ?_
        refine WL_val rfl rfl rfl (st_mv (v := .int _ _) rfl) ?_
        refine WL_val rfl rfl rfl (st_as (v := .int _ _) rfl) ?_
        refine WL_nil ?_
        refine W_seq ?_
        refine W_region ?_
        refine WL_val rfl rfl rfl (st_as (v := (.int .i64 0)) rfl) ?_
        refine WL_nil ?_
        refine W_seq ?_
        refine W_block ?_
        refine W_loop [9] [4, 9, 10, 11, 12, 23, 24, 25, 26, 27, 28, 29, 30, 31, 32, 33, 34, 35, 36, 37, 38, 39, 40, 41, 42, 43, 44, 45, 46, 47, 48, 49, 50, 51, 52, 53, 54, 55, 56, 57, 58, 59, 60, 61, 62, 63, 64, 65, 66, 67, 68, 69, 70, 71, 72, 73, 74, 75, 76, 77, 78, 79, 80, 81, 82, 83, 84, 85, 86, 87, 88, 89, 90, 91, 92, 93, 94, 95, 96, 97, 98] (fun m vs w1 => vs = [.int .i64 ((en.size : Int) - 1)] ∧ Ext w w1) ?_ ?_
        · exact ⟨0, rfl, hx0⟩
        · intro m vs w14 u hI
          obtain ⟨rfl, hx0⟩ := hI
          refine W_seq ?_
          refine W_seq ?_
          refine W_region ?_
          refine WL_val rfl rfl rfl (st_mv (v := .int _ _) rfl) ?_
          refine WL_val rfl rfl rfl (st_mv (v := .string _) rfl) ?_
          refine WL_val rfl rfl rfl (st_lens Tryd.underlying9 rfl) ?_
          refine WL_val rfl rfl rfl (st_lss rfl rfl) ?_
          refine WL_nil ?_
          refine W_cond rfl (fun h26 => ?_) (fun h26 => ?_)
          · have g26 := of_decide_eq_true h26
            have h2 : en.size = 2 := by have : ((2 : Nat) : Int) = 2 := rfl; have e : ((⟨#[0, 47]⟩ : ByteArray)).size = 2 := rfl; rw [e] at g26; omega
            have hc1 : ∀ h, ((⟨#[0, 47]⟩ : ByteArray))[en.size - 1]'h = 47 := by rw [h2]; intro h; rfl
            have hsz : en.size - 1 < ((⟨#[0, 47]⟩ : ByteArray)).size := by rw [h2]; decide
            have hsz2 : en.size - 1 < en.size := by omega
            have hv1 : Value.int .i64 ((en.size : Int) - 1) = Value.int .i64 ((en.size - 1 : Nat) : Int) := vint (by omega)
            have hemp : ((⟨#[0, 47]⟩ : ByteArray)).extract en.size ((⟨#[0, 47]⟩ : ByteArray)).size = ⟨#[]⟩ := by rw [h2]; rfl
            refine W_skip ?_
            refine W_block ?_
            refine W_scope ?_
            refine W_seq ?_
            refine W_seq ?_
            refine W_quiet (Ext w14) mixed (by kernel_rfl) ((Ext.refl _).drew _) ?_
            refine WQ_val rfl rfl rfl (fun _ _ => st_mv (v := .string _) rfl) ?_
            refine WQ_val rfl rfl rfl (fun _ _ => st_mv (v := .int _ _) rfl) ?_
            refine WQ_val rfl rfl rfl (fun _ _ => st_index (k := .i64) (i := en.size - 1) Tryd.underlying9 rfl (by exact hv1) hsz) ?_
            refine WQ_val rfl rfl rfl (fun _ _ => st_mv (v := .string _) rfl) ?_
            refine WQ_val rfl rfl rfl (fun _ _ => st_mv (v := .int _ _) rfl) ?_
            refine WQ_val rfl rfl rfl (fun _ _ => st_index (s := en) (k := .i64) (i := en.size - 1) Tryd.underlying9 rfl (by exact hv1) hsz2) ?_
            refine WQ_val rfl rfl rfl (fun _ _ => st_neq rfl rfl) ?_
            refine WQ_nil ?_
            intro w15 hx16
            replace hx0 := hx0.ext hx16
            refine W_cond rfl (fun h33 => ?_) (fun h33 => ?_)
            · have g33 := of_decide_eq_true h33
              refine W_seq ?_
              refine W_quiet (Ext w15) mixed (by kernel_rfl) ((Ext.refl _).drew _) ?_
              refine WQ_val rfl rfl rfl (fun _ _ => st_mv (v := .string _) rfl) ?_
              refine WQ_val rfl rfl rfl (fun _ _ => st_mv (v := .int _ _) rfl) ?_
              refine WQ_val rfl rfl rfl (fun _ _ => st_add rfl rfl (by omega) (by omega)) ?_
              refine WQ_val rfl rfl rfl (fun _ _ => st_slices (a := en.size) (b := ((⟨#[0, 47]⟩ : ByteArray)).size) Tryd.underlying9 rfl (.inr (congrArg some (by exact vint (by omega)))) (.inl ⟨rfl, rfl⟩) (by rw [h2]; decide) (Nat.le_refl _)) ?_
              refine WQ_val rfl rfl rfl (fun _ _ => st_mv (v := .string _) rfl) ?_
              refine WQ_val rfl rfl rfl (fun _ _ => st_mv (v := .int _ _) rfl) ?_
              refine WQ_val rfl rfl rfl (fun _ _ => st_index (s := en) (k := .i64) (i := en.size - 1) Tryd.underlying9 rfl (by exact hv1) hsz2) ?_
              refine WQ_call rfl rfl rfl (fun w' hx' => ((str_indexByte (((⟨#[0, 47]⟩ : ByteArray)).extract en.size ((⟨#[0, 47]⟩ : ByteArray)).size) en[en.size - 1] w').mono (by rintro _ _ ⟨rfl, rfl⟩; exact ⟨rfl, hx'⟩))) (fun h _ => (ent_go rfl) h) ?_
              refine WQ_val rfl rfl rfl (fun _ _ => st_as (v := .int _ _) rfl) ?_
              refine WQ_nil ?_
              intro w17 hx18
              replace hx0 := hx0.ext hx18
              refine W_seq ?_
              refine W_seq ?_
              refine W_region ?_
              refine WL_val rfl rfl rfl (st_mv (v := .int _ _) rfl) ?_
              refine WL_val rfl rfl rfl (st_lss rfl rfl) ?_
              refine WL_nil ?_
              refine W_cond rfl (fun h43 => ?_) (fun h43 => ?_)
              · have g43 := of_decide_eq_true h43
                refine W_seq ?_
                refine W_region ?_
                refine WL_val rfl rfl rfl (st_as (v := (.int .i64 (-1))) rfl) ?_
                refine WL_nil ?_
                refine W_ret ?_
                refine qr1 ?_
                exact ⟨_, rfl, ⟨fun h => by omega, fun h => by omega⟩, hx0⟩
              · have g43 := of_decide_eq_false h43
                exfalso
                have g43 := of_decide_eq_false h43
                have h7 := (firstIdx_iff _ _).1 (by omega : 0 ≤ firstIdx (((⟨#[0, 47]⟩ : ByteArray)).extract en.size ((⟨#[0, 47]⟩ : ByteArray)).size) en[en.size - 1])
                rw [hemp] at h7
                cases h7
            · have g33 := of_decide_eq_false h33
              exfalso
              have g33 := of_decide_eq_false h33
              rw [hc1] at g33
              have := he3 (by omega)
              have e47 : ((47 : UInt8).toNat : Int) = 47 := rfl
              omega
          · have g26 := of_decide_eq_false h26
            refine W_exit ?_
            refine W_seq ?_
            refine W_seq ?_
            refine W_region ?_
            refine WL_val rfl rfl rfl (st_as (v := (.int .i64 (-1))) rfl) ?_
            refine WL_nil ?_
            refine W_ret ?_
            refine qr1 ?_
            exact ⟨_, rfl, ⟨fun h => by omega, fun h => by omega⟩, hx0⟩
theorem useSet_ok (n : Int) (w : World) : Fun Tryd.prog 67 [.int .i64 n] w (fun v w' => v = .bool (decide (8 < n)) ∧ w = w') := by
  refine fun1 Tryd.func67 rfl (by kernel_rfl) rfl rfl rfl ?_
  refine W_seq ?_
  refine W_region ?_
  refine WL_val rfl rfl rfl (st_as (v := (.bool false)) rfl) ?_
  refine WL_nil ?_
  refine W_seq ?_
  refine W_region ?_
  refine WL_val rfl rfl rfl (st_mv (v := .int _ _) rfl) ?_
  refine WL_val rfl rfl rfl (st_gtr rfl rfl) ?_
  refine WL_val rfl rfl rfl (st_as (v := .bool _) rfl) ?_
  refine WL_nil ?_
  refine W_ret ?_
  refine qr1 ?_
  exact ⟨rfl, rfl⟩
/-- No zero and no slash among the first k bytes. -/
def NoS (s : ByteArray) (k : Nat) : Prop := ∀ j (h : j < s.size), j < k → s[j] ≠ 0 ∧ s[j] ≠ 47
theorem NoS.step {s : ByteArray} {k : Nat} {hk : k < s.size} (h : NoS s k) (h2 : (s[k] = 0 ∨ s[k] = 47) → False) : NoS s (k + 1) := by
  intro j hj h1
  by_cases e : j = k
  · subst e
    exact ⟨fun e => h2 (.inl e), fun e => h2 (.inr e)⟩
  · exact h j hj (by omega)
theorem NoS.all {s : ByteArray} {k : Nat} (h : NoS s k) (hk : s.size ≤ k) (hm : (0 : UInt8) ∈ byts s ∨ (47 : UInt8) ∈ byts s) : False := by
  rcases hm with hm | hm <;> obtain ⟨i, hi, he⟩ := List.getElem_of_mem hm <;> have hi' : i < s.size := by simpa using hi
  · exact (h i hi' (by omega)).1 he
  · exact (h i hi' (by omega)).2 he
theorem setHas_iff (c : UInt8) : [(0 : UInt8), 47].contains c = true ↔ c = 0 ∨ c = 47 := by
  rw [List.contains_iff_mem]
  constructor
  · intro h
    rcases List.mem_cons.1 h with h | h
    · exact .inl h
    · exact .inr (List.mem_singleton.1 h)
  · rintro (rfl | rfl)
    · exact List.mem_cons_self
    · exact List.mem_cons_of_mem _ List.mem_cons_self
theorem blk_whole {w : World} {b : Nat} {T : TypeId} {zs L : List Value} (h : Blk w b T (zs.take 0 ++ L ++ zs.drop (0 + L.length))) (hl : zs.length = L.length) : Blk w b T L := by
  rw [List.drop_eq_nil_of_le (by omega), List.append_nil, List.take_zero, List.nil_append] at h
  exact h
theorem tiSet : TI Tryd.prog 110 (.agg (Array.replicate 256 (.bool false))) 256 256 := TI.mk (by kernel_rfl)
theorem setCells_one' : (Lib.setCells [0, 47]).toList.all one = true := by kernel_rfl
theorem decode_one (s : ByteArray) (k : Nat) (h : k < s.size) : 1 ≤ (Utf8.decode s k).2 := by
  by_cases ha : (s[k]'h).toNat < 128
  · rw [decode_ascii s k h ha]; exact Nat.le_refl 1
  · exact (decode_high s k h (by omega)).2
theorem decode_in (s : ByteArray) (k : Nat) (h : k < s.size) : k + (Utf8.decode s k).2 ≤ s.size := by
  by_cases ha : (s[k]'h).toNat < 128
  · rw [decode_ascii s k h ha]; exact h
  · exact (decode_span s k h (by omega)).1
theorem NoS.next {s : ByteArray} {k : Nat} (h : NoS s k) (hk : k < s.size) (h2 : (((Utf8.decode s k).1 : Int) = 0 ∨ ((Utf8.decode s k).1 : Int) = 47) → False) : NoS s (k + (Utf8.decode s k).2) := by
  intro j hj h1
  have e0 : (0 : UInt8).toNat = 0 := rfl
  have e1 : (47 : UInt8).toNat = 47 := rfl
  by_cases hjk : j < k
  · exact h j hj hjk
  by_cases ha : (s[k]'hk).toNat < 128
  · rw [decode_ascii s k hk ha] at h1 h2
    have e : j = k := by dsimp only at h1; omega
    subst e
    refine ⟨fun e => h2 (.inl ?_), fun e => h2 (.inr ?_)⟩ <;> rw [e] <;> rfl
  · have := (decode_span s k hk (by omega)).2 j hj (by omega) h1
    refine ⟨fun e => ?_, fun e => ?_⟩ <;> rw [e] at this <;> omega
theorem decode_two {s : ByteArray} {k : Nat} (hk : k < s.size) (h2 : ((Utf8.decode s k).1 : Int) = 0 ∨ ((Utf8.decode s k).1 : Int) = 47) : (0 : UInt8) ∈ byts s ∨ (47 : UInt8) ∈ byts s := by
  by_cases ha : (s[k]'hk).toNat < 128
  · rw [decode_ascii s k hk ha] at h2
    have hm : s[k] ∈ byts s := List.getElem_mem (by simpa using hk)
    have e0 : (0 : UInt8).toNat = 0 := rfl
    have e1 : (47 : UInt8).toNat = 47 := rfl
    refine h2.imp (fun e => ?_) (fun e => ?_)
    · rw [show s[k] = 0 from UInt8.toNat_inj.1 (by rw [e0]; exact Int.ofNat.inj e)] at hm; exact hm
    · rw [show s[k] = 47 from UInt8.toNat_inj.1 (by rw [e1]; exact Int.ofNat.inj e)] at hm; exact hm
  · have := (decode_high s k hk (by omega)).1
    omega
theorem indexAny_ok (s : ByteArray) (w : World) (hs : s.size ≤ 1099511627776) :
    Fun Tryd.prog 52 [.string s, .string ⟨#[0, 47]⟩] w (fun v w' => ∃ x, v = .int .i64 x ∧ (0 ≤ x ↔ (0 : UInt8) ∈ byts s ∨ (47 : UInt8) ∈ byts s) ∧ Ext w w') := by
  have hx0 := Ext.refl w
  refine fun1 Tryd.func52 rfl (by kernel_rfl) rfl rfl rfl ?_
  refine W_seq ?_
  refine W_region ?_
  refine WL_val rfl rfl rfl (st_as (v := (.int .i64 0)) rfl) ?_
  refine WL_nil ?_
  refine W_seq ?_
  refine W_seq ?_
  refine W_region ?_
  refine WL_val rfl rfl rfl (st_mv (v := .string _) rfl) ?_
  refine WL_val rfl rfl rfl (st_eqls rfl rfl) ?_
  refine WL_nil ?_
  refine W_no (congrArg Value.bool (by decide)) ?_
  refine W_skip ?_
  refine W_seq ?_
  refine W_seq ?_
  refine W_region ?_
  refine WL_val rfl rfl rfl (st_mv (v := .string _) rfl) ?_
  refine WL_val rfl rfl rfl (st_lens Tryd.underlying9 rfl) ?_
  refine WL_val rfl rfl rfl (st_eql rfl rfl) ?_
  refine WL_nil ?_
  refine W_no (congrArg Value.bool (by decide)) ?_
  refine W_skip ?_
  refine W_seq ?_
  refine W_seq ?_
  refine W_region ?_
  refine WL_val rfl rfl rfl (st_mv (v := .string _) rfl) ?_
  refine WL_val rfl rfl rfl (st_lens Tryd.underlying9 rfl) ?_
  refine WL_call rfl rfl rfl (useSet_ok _ _) (ent_go rfl) ?_
  rintro _ w1 ⟨rfl, rfl⟩
  refine WL_nil ?_
  refine W_cond rfl (fun h26 => ?_) (fun h26 => ?_)
  · have g26 := h26
    refine W_seq ?_
    refine W_region ?_
    refine WL_val rfl rfl rfl (st_mv (v := .string _) rfl) ?_
    refine WL_call rfl rfl rfl (makeSet_ok _) (ent_go rfl) ?_
    rintro _ w3 ⟨rfl, hx4⟩
    replace hx0 := hx0.ext hx4
    refine WL_val rfl rfl rfl (st_mv (v := .tuple #[.agg (Lib.setCells [0, 47]), .bool true]) rfl) ?_
    refine WL_val rfl rfl rfl (st_extract rfl rfl) ?_
    refine WL_val rfl rfl rfl (st_extract rfl rfl) ?_
    refine WL_ef (ef_alloc tiSet) rfl rfl rfl ?_
    rintro _ wa ⟨b, rfl, hlb, hbz, hxa⟩
    obtain ⟨zs, hzs, hbz⟩ : ∃ zs : List Value, zs.length = 256 ∧ Blk wa b 110 zs := ⟨_, by kernel_rfl, hbz⟩
    have hszb := hx0.size
    replace hx0 : Ext w wa := hx0.ext hxa
    refine WL_su (su_storea (vs := (Lib.setCells [0, 47]).toList) tiSet rfl hbz (by show Value.agg (Lib.setCells [0, 47]) = Value.agg (Lib.setCells [0, 47]).toList.toArray; rw [Array.toArray_toList]) (by simp only [Array.length_toList, Lib.setCells_size]) (by simp only [Array.length_toList, Lib.setCells_size, hzs]; omega) setCells_one') rfl rfl ?_
    rintro ws ⟨hb6, hfs⟩
    have hb6 := blk_whole hb6 (by rw [hzs]; simp only [Array.length_toList, Lib.setCells_size])
    have hx0 : Ext w ws := hx0.trans' hfs (fun _ _ f => f) (fun k hk e => by have e' : k = b := e; omega)
    clear hbz
    refine WL_val rfl rfl rfl (st_as (v := .bool _) rfl) ?_
    refine WL_nil ?_
    refine W_seq ?_
    refine W_region ?_
    refine WL_val rfl rfl rfl (st_mv (v := .bool _) rfl) ?_
    refine WL_nil ?_
    refine W_yes rfl ?_
    refine W_seq ?_
    refine W_seq ?_
    refine W_region ?_
    refine WL_val rfl rfl rfl (st_as (v := (.int .i64 0)) rfl) ?_
    refine WL_nil ?_
    refine W_block ?_
    refine W_loop [8] [4, 8, 33, 34, 35, 36, 37, 38, 39, 40, 41, 42, 43] (fun m vs w1 => ∃ k : Nat, k + m = s.size ∧ vs = [.int .i64 (k : Int)] ∧ NoS s k ∧ Ext w w1 ∧ Blk w1 b 110 (Lib.setCells [0, 47]).toList) ?_ ?_
    · exact ⟨s.size, 0, by omega, rfl, fun j h h0 => by omega, hx0, hb6⟩
    · intro m vs w5 u hI
      obtain ⟨k, hk, rfl, hno, hx0, hb6⟩ := hI
      refine W_seq ?_
      refine W_seq ?_
      refine W_region ?_
      refine WL_val rfl rfl rfl (st_mv (v := .int _ _) rfl) ?_
      refine WL_val rfl rfl rfl (st_mv (v := .string _) rfl) ?_
      refine WL_val rfl rfl rfl (st_lens Tryd.underlying9 rfl) ?_
      refine WL_val rfl rfl rfl (st_lss rfl rfl) ?_
      refine WL_nil ?_
      refine W_cond rfl (fun h36 => ?_) (fun h36 => ?_)
      · have g36 := of_decide_eq_true h36
        refine W_skip ?_
        refine W_seq ?_
        refine W_block ?_
        refine W_seq ?_
        have hk' : k < s.size := by omega
        refine W_region ?_
        refine WL_val rfl rfl rfl (st_mv (v := .string _) rfl) ?_
        refine WL_val rfl rfl rfl (st_mv (v := .int _ _) rfl) ?_
        refine WL_val rfl rfl rfl (st_index Tryd.underlying9 rfl rfl (by omega)) ?_
        refine WL_call rfl rfl rfl (setHas_ok b s[k] ([(0 : UInt8), 47].contains s[k]) _ (hb6.cell _ (by rw [Array.getElem?_toList]; exact Lib.setCells_at _ _))) (ent_go rfl) ?_
        rintro _ w6 ⟨rfl, rfl⟩
        refine WL_nil ?_
        refine W_cond rfl (fun h42 => ?_) (fun h42 => ?_)
        · have g42 := h42
          refine W_seq ?_
          refine W_region ?_
          refine WL_val rfl rfl rfl (st_mv (v := .int _ _) rfl) ?_
          refine WL_val rfl rfl rfl (st_as (v := .int _ _) rfl) ?_
          refine WL_nil ?_
          refine W_ret ?_
          refine qr1 ?_
          have hm := (setHas_iff s[k]).1 h42
          exact ⟨_, rfl, ⟨fun _ => hm.imp (fun e => by rw [← e]; exact List.getElem_mem (by simpa using hk')) (fun e => by rw [← e]; exact List.getElem_mem (by simpa using hk')), fun _ => by omega⟩, hx0⟩
        · have g42 := h42
          refine W_skip ?_
          refine W_region ?_
          refine WL_val rfl rfl rfl (st_mv (v := .int _ _) rfl) ?_
          refine WL_val rfl rfl rfl (st_add rfl rfl (by omega) (by omega)) ?_
          refine WL_val rfl rfl rfl (st_as (v := .int _ _) rfl) ?_
          refine WL_nil ?_
          refine rnd_end ?_ (m - 1) ?_ ?_
          · repeat (first | exact agree_in rfl rfl (agree_refl _ _) | exact agree_refl _ _ | refine agree_in rfl rfl ?_ | refine agree_upd rfl ?_)
          · omega
          · exact ⟨k + 1, by omega, vec1 rfl, hno.step (fun h => by have h9 := (setHas_iff s[k]).2 h; rw [h42] at h9; cases h9), hx0, hb6⟩
      · have g36 := of_decide_eq_false h36
        refine W_exit ?_
        refine W_seq ?_
        refine W_region ?_
        refine WL_val rfl rfl rfl (st_as (v := (.int .i64 (-1))) rfl) ?_
        refine WL_nil ?_
        refine W_ret ?_
        refine qr1 ?_
        exact ⟨_, rfl, ⟨fun h => by omega, fun h => (hno.all (by omega) h).elim⟩, hx0⟩
  · have g26 := h26
    refine W_skip ?_
    refine W_seq ?_
    refine W_seq ?_
    refine W_region ?_
    refine WL_val rfl rfl rfl (st_mv (v := .string _) rfl) ?_
    refine WL_ef (ef_range Tryd.underlying9 rfl) rfl rfl rfl ?_
    rintro _ wr ⟨it, rfl, hlt, hit, hxr⟩
    have hszr := hx0.size
    replace hx0 : Ext w wr := hx0.ext hxr
    refine WL_nil ?_
    refine W_block ?_
    refine W_loop [] [4, 9, 10, 46, 47, 48, 49, 50, 51, 52, 53, 54] (fun m vs w1 => ∃ k : Nat, k + m = s.size ∧ vs = [] ∧ NoS s k ∧ Itr w1 it s k ∧ Ext w w1) ?_ ?_
    · exact ⟨s.size, 0, by omega, rfl, fun j h h0 => by omega, hit, hx0⟩
    · intro m vs w8 u hI
      obtain ⟨k, hk, rfl, hno, hit, hx0⟩ := hI
      refine W_seq ?_
      refine W_region ?_
      rcases Nat.lt_or_ge k s.size with hp | hp
      · refine WL_ef (ef_next rfl hit hp) rfl rfl rfl ?_
        rintro _ wn ⟨rfl, hit, hfn⟩
        have hx0 : Ext w wn := hx0.trans' hfn (fun _ _ f => f) (fun k hk e => by have e' : k = it := e; omega)
        have hitlt := hit.lt
        refine WL_val rfl rfl rfl (st_extract rfl rfl) ?_
        refine WL_nil ?_
        refine W_seq ?_
        refine W_yes rfl ?_
        refine W_skip ?_
        refine W_block ?_
        refine W_seq ?_
        refine W_region ?_
        refine WL_val rfl rfl rfl (st_extract rfl rfl) ?_
        refine WL_val rfl rfl rfl (st_extract rfl rfl) ?_
        refine WL_val rfl rfl rfl (st_as (v := .int _ _) rfl) ?_
        refine WL_val rfl rfl rfl (st_as (v := .int _ _) rfl) ?_
        refine WL_nil ?_
        refine W_seq ?_
        refine W_region ?_
        refine WL_val rfl rfl rfl (st_mv (v := .string _) rfl) ?_
        refine WL_val rfl rfl rfl (st_mv (v := .int _ _) rfl) ?_
        refine WL_call rfl rfl rfl (indexRune_ok ((Utf8.decode s k).1 : Int) (by omega) (by have := decode_le s k; omega) _) (ent_go rfl) ?_
        rintro _ w9 ⟨x, rfl, hiff, hx10⟩
        replace hit := hit.ext hx10
        replace hx0 := hx0.ext hx10
        refine WL_val rfl rfl rfl (st_geq rfl rfl) ?_
        refine WL_nil ?_
        refine W_cond rfl (fun h53 => ?_) (fun h53 => ?_)
        · have g53 := of_decide_eq_true h53
          refine W_seq ?_
          refine W_region ?_
          refine WL_val rfl rfl rfl (st_mv (v := .int _ _) rfl) ?_
          refine WL_val rfl rfl rfl (st_as (v := .int _ _) rfl) ?_
          refine WL_nil ?_
          refine W_ret ?_
          refine qr1 ?_
          exact ⟨_, rfl, ⟨fun _ => decode_two hp (hiff.1 (by omega)), fun _ => by omega⟩, hx0⟩
        · have g53 := of_decide_eq_false h53
          refine W_skip ?_
          refine Blo_n ?_
          refine rnd_end ?_ (s.size - (k + (Utf8.decode s k).2)) ?_ ?_
          · repeat (first | exact agree_in rfl rfl (agree_refl _ _) | exact agree_refl _ _ | refine agree_in rfl rfl ?_ | refine agree_upd rfl ?_)
          · have := decode_one s k hp; omega
          · exact ⟨k + (Utf8.decode s k).2, by have := decode_in s k hp; omega, rfl, hno.next hp (fun h => by have := hiff.2 h; omega), hit, hx0⟩
      · refine WL_val rfl rfl rfl (st_next_end rfl hit (by omega)) ?_
        refine WL_val rfl rfl rfl (st_extract rfl rfl) ?_
        refine WL_nil ?_
        refine W_seq ?_
        refine W_no rfl ?_
        refine W_exit ?_
        refine W_seq ?_
        refine W_region ?_
        refine WL_val rfl rfl rfl (st_as (v := (.int .i64 (-1))) rfl) ?_
        refine WL_nil ?_
        refine W_ret ?_
        refine qr1 ?_
        exact ⟨_, rfl, ⟨fun h => by omega, fun h => (hno.all (by omega) h).elim⟩, hx0⟩
theorem containsAny_ok (s : ByteArray) (w : World) (hs : s.size ≤ 1099511627776) :
    Fun Tryd.prog 36 [.string s, .string ⟨#[0, 47]⟩] w (fun v w' => v = .bool (decide ((0 : UInt8) ∈ byts s ∨ (47 : UInt8) ∈ byts s)) ∧ Ext w w') := by
  have hx0 := Ext.refl w
  refine fun1 Tryd.func36 rfl (by kernel_rfl) rfl rfl rfl ?_
  refine W_seq ?_
  refine W_region ?_
  refine WL_val rfl rfl rfl (st_as (v := (.bool false)) rfl) ?_
  refine WL_nil ?_
  refine W_seq ?_
  refine W_region ?_
  refine WL_val rfl rfl rfl (st_mv (v := .string _) rfl) ?_
  refine WL_val rfl rfl rfl (st_mv (v := .string _) rfl) ?_
  refine WL_call rfl rfl rfl (indexAny_ok s _ hs) (ent_go rfl) ?_
  rintro _ w1 ⟨x, rfl, hiff, hx2⟩
  replace hx0 := hx0.ext hx2
  refine WL_val rfl rfl rfl (st_geq rfl rfl) ?_
  refine WL_val rfl rfl rfl (st_as (v := .bool _) rfl) ?_
  refine WL_nil ?_
  refine W_ret ?_
  refine qr1 ?_
  exact ⟨vbool (decide_eq_decide.2 hiff), hx0⟩
def isNameB (s : ByteArray) : Bool := !decide (s = ⟨#[]⟩) && decide ((s.size : Int) ≤ 255) && !decide (s = ⟨#[46]⟩) && !decide (s = ⟨#[46, 46]⟩) && !decide ((0 : UInt8) ∈ byts s ∨ (47 : UInt8) ∈ byts s)
theorem isName_ok (s : ByteArray) (w : World) :
    Fun Tryd.prog 20 [.string s] w (fun v w' => v = .bool (isNameB s) ∧ Ext w w') := by
  have hx0 := Ext.refl w
  refine fun1 Tryd.func20 rfl (by kernel_rfl) rfl rfl rfl ?_
  refine W_seq ?_
  refine W_region ?_
  refine WL_val rfl rfl rfl (st_as (v := (.bool false)) rfl) ?_
  refine WL_nil ?_
  refine W_seq ?_
  refine W_region ?_
  refine WL_val rfl rfl rfl (st_mv (v := .string _) rfl) ?_
  refine WL_val rfl rfl rfl (st_neqs rfl rfl) ?_
  refine WL_val rfl rfl rfl (st_mv (v := .bool _) rfl) ?_
  refine WL_split 5 rfl (fun h5 => ?_) (fun h5 => ?_)
  · have g5 := of_decide_eq_false (not_t h5)
    refine WL_valg rfl rfl rfl (congrArg Value.bool h5) rfl rfl (st_mv (v := .string _) rfl) ?_
    refine WL_valg rfl rfl rfl (congrArg Value.bool h5) rfl rfl (st_lens Tryd.underlying9 rfl) ?_
    refine WL_valg rfl rfl rfl (congrArg Value.bool h5) rfl rfl (st_leq rfl rfl) ?_
    refine WL_val rfl rfl rfl (st_pk_t (v := .bool _) (congrArg Value.bool h5) rfl) ?_
    refine WL_val rfl rfl rfl (st_mv (v := .bool _) rfl) ?_
    refine WL_split 10 rfl (fun h10 => ?_) (fun h10 => ?_)
    · have g10 := of_decide_eq_true h10
      refine WL_valg rfl rfl rfl (congrArg Value.bool h10) rfl rfl (st_mv (v := .string _) rfl) ?_
      refine WL_valg rfl rfl rfl (congrArg Value.bool h10) rfl rfl (st_neqs rfl rfl) ?_
      refine WL_val rfl rfl rfl (st_pk_t (v := .bool _) (congrArg Value.bool h10) rfl) ?_
      refine WL_val rfl rfl rfl (st_mv (v := .bool _) rfl) ?_
      refine WL_split 14 rfl (fun h14 => ?_) (fun h14 => ?_)
      · have g14 := of_decide_eq_false (not_t h14)
        refine WL_valg rfl rfl rfl (congrArg Value.bool h14) rfl rfl (st_mv (v := .string _) rfl) ?_
        refine WL_valg rfl rfl rfl (congrArg Value.bool h14) rfl rfl (st_neqs rfl rfl) ?_
        refine WL_val rfl rfl rfl (st_pk_t (v := .bool _) (congrArg Value.bool h14) rfl) ?_
        refine WL_val rfl rfl rfl (st_mv (v := .bool _) rfl) ?_
        refine WL_split 18 rfl (fun h18 => ?_) (fun h18 => ?_)
        · have g18 := of_decide_eq_false (not_t h18)
          refine WL_valg rfl rfl rfl (congrArg Value.bool h18) rfl rfl (st_mv (v := .string _) rfl) ?_
          refine WL_callg rfl rfl rfl (congrArg Value.bool h18) rfl rfl (containsAny_ok s _ (by omega)) (ent_go rfl) ?_
          rintro _ w1 ⟨rfl, hx2⟩
          replace hx0 := hx0.ext hx2
          refine WL_valg rfl rfl rfl (congrArg Value.bool h18) rfl rfl (st_not rfl) ?_
          refine WL_val rfl rfl rfl (st_pk_t (v := .bool _) (congrArg Value.bool h18) rfl) ?_
          refine WL_val rfl rfl rfl (st_as (v := .bool _) rfl) ?_
          refine WL_nil ?_
          refine W_ret ?_
          refine qr1 ?_
          exact ⟨vbool (by unfold isNameB; rw [h5, h10, h14, h18]; rfl), hx0⟩
        · have g18 := of_decide_eq_true (not_f h18)
          refine WL_pass rfl rfl rfl (congrArg Value.bool h18) rfl rfl ?_
          refine WL_pass rfl rfl rfl (congrArg Value.bool h18) rfl rfl ?_
          refine WL_pass rfl rfl rfl (congrArg Value.bool h18) rfl rfl ?_
          refine WL_val rfl rfl rfl (st_pk_f (v := (.bool false)) (congrArg Value.bool h18) rfl) ?_
          refine WL_val rfl rfl rfl (st_as (v := .bool _) rfl) ?_
          refine WL_nil ?_
          refine W_ret ?_
          refine qr1 ?_
          exact ⟨vbool (by unfold isNameB; rw [h5, h10, h14, h18]; rfl), hx0⟩
      · have g14 := of_decide_eq_true (not_f h14)
        refine WL_pass rfl rfl rfl (congrArg Value.bool h14) rfl rfl ?_
        refine WL_pass rfl rfl rfl (congrArg Value.bool h14) rfl rfl ?_
        refine WL_val rfl rfl rfl (st_pk_f (v := (.bool false)) (congrArg Value.bool h14) rfl) ?_
        refine WL_val rfl rfl rfl (st_mv (v := .bool _) rfl) ?_
        refine WL_pass rfl rfl rfl rfl rfl rfl ?_
        refine WL_pass rfl rfl rfl rfl rfl rfl ?_
        refine WL_pass rfl rfl rfl rfl rfl rfl ?_
        refine WL_val rfl rfl rfl (st_pk_f (v := (.bool false)) rfl rfl) ?_
        refine WL_val rfl rfl rfl (st_as (v := .bool _) rfl) ?_
        refine WL_nil ?_
        refine W_ret ?_
        refine qr1 ?_
        exact ⟨vbool (by unfold isNameB; rw [h5, h10, h14]; rfl), hx0⟩
    · have g10 := of_decide_eq_false h10
      refine WL_pass rfl rfl rfl (congrArg Value.bool h10) rfl rfl ?_
      refine WL_pass rfl rfl rfl (congrArg Value.bool h10) rfl rfl ?_
      refine WL_val rfl rfl rfl (st_pk_f (v := (.bool false)) (congrArg Value.bool h10) rfl) ?_
      refine WL_val rfl rfl rfl (st_mv (v := .bool _) rfl) ?_
      refine WL_pass rfl rfl rfl rfl rfl rfl ?_
      refine WL_pass rfl rfl rfl rfl rfl rfl ?_
      refine WL_val rfl rfl rfl (st_pk_f (v := (.bool false)) rfl rfl) ?_
      refine WL_val rfl rfl rfl (st_mv (v := .bool _) rfl) ?_
      refine WL_pass rfl rfl rfl rfl rfl rfl ?_
      refine WL_pass rfl rfl rfl rfl rfl rfl ?_
      refine WL_pass rfl rfl rfl rfl rfl rfl ?_
      refine WL_val rfl rfl rfl (st_pk_f (v := (.bool false)) rfl rfl) ?_
      refine WL_val rfl rfl rfl (st_as (v := .bool _) rfl) ?_
      refine WL_nil ?_
      refine W_ret ?_
      refine qr1 ?_
      exact ⟨vbool (by unfold isNameB; rw [h5, h10]; rfl), hx0⟩
  · have g5 := of_decide_eq_true (not_f h5)
    refine WL_pass rfl rfl rfl (congrArg Value.bool h5) rfl rfl ?_
    refine WL_pass rfl rfl rfl (congrArg Value.bool h5) rfl rfl ?_
    refine WL_pass rfl rfl rfl (congrArg Value.bool h5) rfl rfl ?_
    refine WL_val rfl rfl rfl (st_pk_f (v := (.bool false)) (congrArg Value.bool h5) rfl) ?_
    refine WL_val rfl rfl rfl (st_mv (v := .bool _) rfl) ?_
    refine WL_pass rfl rfl rfl rfl rfl rfl ?_
    refine WL_pass rfl rfl rfl rfl rfl rfl ?_
    refine WL_val rfl rfl rfl (st_pk_f (v := (.bool false)) rfl rfl) ?_
    refine WL_val rfl rfl rfl (st_mv (v := .bool _) rfl) ?_
    refine WL_pass rfl rfl rfl rfl rfl rfl ?_
    refine WL_pass rfl rfl rfl rfl rfl rfl ?_
    refine WL_val rfl rfl rfl (st_pk_f (v := (.bool false)) rfl rfl) ?_
    refine WL_val rfl rfl rfl (st_mv (v := .bool _) rfl) ?_
    refine WL_pass rfl rfl rfl rfl rfl rfl ?_
    refine WL_pass rfl rfl rfl rfl rfl rfl ?_
    refine WL_pass rfl rfl rfl rfl rfl rfl ?_
    refine WL_val rfl rfl rfl (st_pk_f (v := (.bool false)) rfl rfl) ?_
    refine WL_val rfl rfl rfl (st_as (v := .bool _) rfl) ?_
    refine WL_nil ?_
    refine W_ret ?_
    refine qr1 ?_
    exact ⟨vbool (by unfold isNameB; rw [h5]; rfl), hx0⟩
/-- The error of a path. -/
def checkPath (s : ByteArray) : Int := if s = ⟨#[]⟩ then 0 else if 1024 < s.size then 1 else if (Lib.splitB ⟨#[47]⟩ 0 (Lib.countB s ⟨#[47]⟩) s).all isNameB then 0 else 1
theorem Check_ok (s : ByteArray) (m : Int) (w : World) (hm : w.cell? ⟨0, 0, none⟩ = some (.int .i64 m)) :
    Fun Tryd.prog 11 [.string s] w (fun v w' => v = .int .i64 (checkPath s) ∧ Ext w w') := by
  have hx0 := Ext.refl w
  refine fun1 Tryd.func11 rfl (by kernel_rfl) rfl rfl rfl ?_
  refine W_seq ?_
  refine W_region ?_
  refine WL_val rfl rfl rfl (st_as (v := (.int .i64 0)) rfl) ?_
  refine WL_nil ?_
  refine W_seq ?_
  refine W_seq ?_
  refine W_region ?_
  refine WL_val rfl rfl rfl (st_mv (v := .string _) rfl) ?_
  refine WL_val rfl rfl rfl (st_eqls rfl rfl) ?_
  refine WL_nil ?_
  refine W_cond rfl (fun h6 => ?_) (fun h6 => ?_)
  · have g6 := of_decide_eq_true h6
    refine W_seq ?_
    refine W_region ?_
    refine WL_val rfl rfl rfl (st_as (v := (.int .i64 0)) rfl) ?_
    refine WL_nil ?_
    refine W_ret ?_
    refine qr1 ?_
    exact ⟨vint (by unfold checkPath; rw [if_pos g6]), hx0⟩
  · have g6 := of_decide_eq_false h6
    refine W_skip ?_
    refine W_seq ?_
    refine W_seq ?_
    refine W_region ?_
    refine WL_val rfl rfl rfl (st_mv (v := .string _) rfl) ?_
    refine WL_val rfl rfl rfl (st_lens Tryd.underlying9 rfl) ?_
    refine WL_val rfl rfl rfl (st_gtr rfl rfl) ?_
    refine WL_nil ?_
    refine W_cond rfl (fun h9 => ?_) (fun h9 => ?_)
    · have g9 := of_decide_eq_true h9
      refine W_seq ?_
      refine W_region ?_
      refine WL_val rfl rfl rfl (st_as (v := (.int .i64 1)) rfl) ?_
      refine WL_nil ?_
      refine W_ret ?_
      refine qr1 ?_
      exact ⟨vint (by unfold checkPath; rw [if_neg g6, if_pos (show 1024 < s.size by omega)]), hx0⟩
    · have g9 := of_decide_eq_false h9
      refine W_skip ?_
      refine W_seq ?_
      refine W_seq ?_
      refine W_region ?_
      refine WL_val rfl rfl rfl (st_mv (v := .string _) rfl) ?_
      refine WL_call rfl rfl rfl (split_ok s m _ (by omega) (hx0.cell hm)) (ent_go rfl) ?_
      rintro _ w1 ⟨gp, rfl, hbp, hx2⟩
      have hlen := Lib.splitB_all ⟨#[47]⟩ (by decide) 0 _ s rfl
      rw [← hlen]
      have hcp : checkPath s = if (Lib.splitB ⟨#[47]⟩ 0 (Lib.countB s ⟨#[47]⟩) s).all isNameB then 0 else 1 := by
        unfold checkPath
        rw [if_neg g6, if_neg (show ¬ 1024 < s.size by omega)]
      have hpc : (Lib.splitB ⟨#[47]⟩ 0 (Lib.countB s ⟨#[47]⟩) s).length ≤ 1025 := by have := Lib.countB_le ⟨#[47]⟩ (by decide) s.size s (Nat.le_refl _); omega
      generalize Lib.splitB ⟨#[47]⟩ 0 (Lib.countB s ⟨#[47]⟩) s = L at hbp hcp hpc
      replace hx0 := hx0.ext hx2
      refine WL_val rfl rfl rfl (st_len Tryd.underlying46 rfl) ?_
      refine WL_val rfl rfl rfl (st_mv (v := (.int .i64 0)) rfl) ?_
      refine WL_nil ?_
      refine W_block ?_
      refine W_loop [13] [2, 4, 13, 14, 15, 16, 17, 18, 19, 20] (fun m vs w1 => ∃ k : Nat, k + m = L.length ∧ vs = [.int .i64 (k : Int)] ∧ (L.take k).all isNameB = true ∧ Ext w w1 ∧ Blk w1 gp 9 (L.map .string)) ?_ ?_
      · exact ⟨L.length, 0, by omega, rfl, rfl, hx0, hbp⟩
      · intro m vs w3 u hI
        obtain ⟨k, hk, rfl, hall, hx0, hbp⟩ := hI
        refine W_seq ?_
        refine W_region ?_
        refine WL_val rfl rfl rfl (st_lss rfl rfl) ?_
        refine WL_nil ?_
        refine W_seq ?_
        refine W_cond rfl (fun h14 => ?_) (fun h14 => ?_)
        · have g14 := of_decide_eq_true h14
          refine W_skip ?_
          refine W_seq ?_
          refine W_block ?_
          refine W_seq ?_
          have hk' : k < L.length := by omega
          have hcell : (L.map Value.string)[k]? = some (.string L[k]) := by rw [List.getElem?_map, List.getElem?_eq_getElem hk']; rfl
          refine W_region ?_
          refine WL_val rfl rfl rfl (st_indexAddr (o := 0) Tryd.underlying46 ti9 rfl rfl rfl (by omega)) ?_
          refine WL_val rfl rfl rfl (st_load ⟨_, Tryd.underlying9, rfl⟩ rfl (by have h9 := hbp.cell k hcell; rw [show 0 + k * 1 = k from by omega]; exact h9)) ?_
          refine WL_val rfl rfl rfl (st_as (v := .string _) rfl) ?_
          refine WL_nil ?_
          refine W_seq ?_
          refine W_region ?_
          refine WL_val rfl rfl rfl (st_mv (v := .string _) rfl) ?_
          refine WL_call rfl rfl rfl (isName_ok L[k] _) (ent_go rfl) ?_
          rintro _ w4 ⟨rfl, hx5⟩
          replace hx0 := hx0.ext hx5
          replace hbp := hbp.ext hx5
          refine WL_val rfl rfl rfl (st_not rfl) ?_
          refine WL_nil ?_
          refine W_cond rfl (fun h19 => ?_) (fun h19 => ?_)
          · have g18 := not_t h19
            refine W_seq ?_
            refine W_region ?_
            refine WL_val rfl rfl rfl (st_as (v := (.int .i64 1)) rfl) ?_
            refine WL_nil ?_
            refine W_ret ?_
            refine qr1 ?_
            exact ⟨vint (by rw [hcp, if_neg]; intro hq; rw [List.all_eq_true] at hq; rw [hq _ (List.getElem_mem hk')] at g18; cases g18), hx0⟩
          · have g18 := not_f h19
            refine W_skip ?_
            refine W_region ?_
            refine WL_val rfl rfl rfl (st_add rfl rfl (by omega) (by omega)) ?_
            refine WL_val rfl rfl rfl (st_mv (v := .int _ _) rfl) ?_
            refine WL_nil ?_
            refine rnd_end ?_ (m - 1) ?_ ?_
            · repeat (first | exact agree_in rfl rfl (agree_refl _ _) | exact agree_refl _ _ | refine agree_in rfl rfl ?_ | refine agree_upd rfl ?_)
            · omega
            · exact ⟨k + 1, by omega, vec1 rfl, by rw [List.take_succ_eq_append_getElem hk', List.all_append, hall]; simpa using g18, hx0, hbp⟩
        · have g14 := of_decide_eq_false h14
          refine W_exit ?_
          refine W_seq ?_
          refine W_region ?_
          refine WL_val rfl rfl rfl (st_as (v := (.int .i64 0)) rfl) ?_
          refine WL_nil ?_
          refine W_ret ?_
          refine qr1 ?_
          rw [List.take_of_length_le (by omega)] at hall
          exact ⟨vint (by rw [hcp, if_pos hall]), hx0⟩
theorem landed_ok (m : Int) (w : World) (hm : w.cell? ⟨0, 0, none⟩ = some (.int .i64 m)) :
    Fun Tryd.prog 4 [] w (fun v w' => v = .bool true ∧ Ext w w') := by
  have hx0 := Ext.refl w
  refine fun1 Tryd.func4 rfl (by kernel_rfl) rfl rfl rfl ?_
  refine W_seq ?_
  refine W_region ?_
  refine WL_val rfl rfl rfl (st_as (v := (.bool false)) rfl) ?_
  refine WL_nil ?_
  refine W_seq ?_
  refine W_region ?_
  refine WL_call rfl rfl rfl (Check_ok ⟨#[47]⟩ m _ hm) (ent_go rfl) ?_
  rintro _ w1 ⟨rfl, hx2⟩
  replace hx0 := hx0.ext hx2
  refine WL_val rfl rfl rfl (st_eql rfl rfl) ?_
  refine WL_val rfl rfl rfl (st_as (v := .bool _) rfl) ?_
  refine WL_nil ?_
  refine W_ret ?_
  refine qr1 ?_
  exact ⟨vbool (by kernel_rfl), hx0⟩
end Go.Proofs.YtndfhicdabdafaaDoor
