/- The plain law: a glob told from the root on, and without the word for directories, in plain words of Lean. -/
import Derived.Test.YtndfhicdabdafaaDoorQ
namespace Go.Proofs.YtndfhicdabdafaaDoor
open Go Go.RowKit

def Beg (rt : Bool) (u : List UInt8) : Prop := u = [] ∨ (rt = false ∧ ∃ u', u = u' ++ [47])
def RB (rt : Bool) (L : List UInt8 → Prop) (D z : List UInt8) : Prop := ∃ u v, D = u ++ v ∧ Beg rt u ∧ L (v ++ z)
def RR (rt : Bool) (L : List UInt8 → Prop) (T : List UInt8) : Prop := ∃ u v, T = u ++ v ∧ Beg rt u ∧ L v
def FitL (rt : Bool) (L : List UInt8 → Prop) (t : List UInt8) (it ab : Bool) : Prop :=
  t ≠ [] ∧ ((it = true ∧ RR rt L t) ∨ (ab = true ∧ ∃ a b, t = a ++ 47 :: b ∧ a ≠ [] ∧ RR rt L a))
def dirL (d : List UInt8) : List UInt8 := if d = [] then [] else d ++ [47]
/-- There is a path below directory d. -/
def BelL (rt dirs : Bool) (L : List UInt8 → Prop) (d : List UInt8) : Prop := (dirs = true ∧ FitL rt L d true true) ∨ ∃ z, Tail z ∧ RB rt L (dirL d) z
def LgA (L : List UInt8 → Prop) (l : List UInt8) : Prop := L l ∨ ∃ y l', l = y ++ 47 :: l' ∧ L l'
def LgB (L : List UInt8 → Prop) (l : List UInt8) : Prop := ∃ x y, l = x ++ 47 :: y ∧ L x

theorem RR_root {L : List UInt8 → Prop} {T : List UInt8} : RR true L T ↔ L T := by
  constructor
  · rintro ⟨u, v, rfl, hu | hu, h⟩
    · subst hu; exact h
    · cases hu.1
  · intro h; exact ⟨[], T, rfl, .inl rfl, h⟩
theorem RB_root {L : List UInt8 → Prop} {D z : List UInt8} : RB true L D z ↔ L (D ++ z) := by
  constructor
  · rintro ⟨u, v, rfl, hu | hu, h⟩
    · subst hu; exact h
    · cases hu.1
  · intro h; exact ⟨[], D, rfl, .inl rfl, h⟩
theorem RR_one {L : List UInt8 → Prop} {T : List UInt8} : RR true (LgA L) T ↔ RR false L T := by
  rw [RR_root]
  constructor
  · rintro (h | ⟨y, l, rfl, h⟩)
    · exact ⟨[], T, rfl, .inl rfl, h⟩
    · exact ⟨y ++ [47], l, by simp, .inr ⟨rfl, y, rfl⟩, h⟩
  · rintro ⟨u, v, rfl, hu | ⟨_, u', hu⟩, h⟩
    · subst hu; exact .inl h
    · subst hu; exact .inr ⟨u', v, by simp, h⟩
theorem FitL_one {L : List UInt8 → Prop} {t : List UInt8} {it ab : Bool} : FitL true (LgA L) t it ab ↔ FitL false L t it ab := by
  unfold FitL
  simp only [RR_one]
theorem dirL_form (d : List UInt8) : dirL d = [] ∨ ∃ u, dirL d = u ++ [47] := by
  unfold dirL
  split
  · exact .inl rfl
  · exact .inr ⟨d, rfl⟩
theorem Tail_behind {a b : List UInt8} (h : Tail (a ++ 47 :: b)) : Tail a ∧ Tail b := by
  obtain ⟨h1, h2⟩ := h
  obtain ⟨m, h3, h4⟩ := (Gr_append _ _ _ _).1 h1
  obtain ⟨m2, h5, h6⟩ := h4
  unfold grw at h5
  rw [if_pos rfl] at h5
  split at h5
  · rename_i hm
    injection h5 with h5
    subst h5 hm
    exact ⟨⟨h3, fun c hc => h2 c (List.mem_append_left _ hc)⟩, ⟨h6, fun c hc => h2 c (by simp [hc])⟩⟩
  · cases h5
theorem Tail_more {a : List UInt8} (h : Tail a) : Tail (a ++ [47, 97]) := by
  refine ⟨(Gr_append _ _ _ _).2 ⟨3, h.1, 0, rfl, 3, rfl, rfl⟩, fun c hc => ?_⟩
  rcases List.mem_append.1 hc with hc | hc
  · exact h.2 c hc
  · simp at hc; rcases hc with rfl | rfl <;> decide
theorem Tail_a : Tail [97] := ⟨⟨3, rfl, rfl⟩, fun c hc => by simp at hc; subst hc; decide⟩
theorem RB_one {L : List UInt8 → Prop} {D : List UInt8} (hD : D = [] ∨ ∃ u, D = u ++ [47]) : (∃ z, Tail z ∧ RB true (LgA L) D z) ↔ ∃ z, Tail z ∧ RB false L D z := by
  constructor
  · rintro ⟨z, hz, h⟩
    rw [RB_root] at h
    rcases h with h | ⟨y, l, e, h⟩
    · exact ⟨z, hz, [], D, rfl, .inl rfl, h⟩
    · have e2 : D ++ z = (y ++ [47]) ++ l := by rw [e]; simp
      rcases List.append_eq_append_iff.1 e2 with ⟨c, e3, e4⟩ | ⟨c, e3, e4⟩
      · rcases List.eq_nil_or_concat c with rfl | ⟨c', x, rfl⟩
        · rw [List.append_nil] at e3
          exact ⟨z, hz, y ++ [47], [], by simp [e3], .inr ⟨rfl, y, rfl⟩, by simpa [e4] using h⟩
        · rw [List.concat_eq_append] at e3 e4
          rw [← List.append_assoc] at e3
          have e5 := (List.append_inj' e3 rfl).2
          injection e5 with e5
          subst e5
          have hz2 : Tail (c' ++ 47 :: l) := by rw [e4] at hz; simpa using hz
          exact ⟨l, (Tail_behind hz2).2, D, [], by simp, hD.imp id (fun h => ⟨rfl, h⟩), by simpa using h⟩
      · exact ⟨z, hz, y ++ [47], c, e3, .inr ⟨rfl, y, rfl⟩, by rw [← e4]; exact h⟩
  · rintro ⟨z, hz, u, v, rfl, hu | ⟨_, u', hu⟩, h⟩
    · subst hu; exact ⟨z, hz, RB_root.2 (.inl h)⟩
    · subst hu; exact ⟨z, hz, RB_root.2 (.inr ⟨u', v ++ z, by simp, h⟩)⟩
theorem BelL_one {dirs : Bool} {L : List UInt8 → Prop} {d : List UInt8} : BelL true dirs (LgA L) d ↔ BelL false dirs L d := by
  unfold BelL
  rw [FitL_one, RB_one (dirL_form d)]
theorem FitL_two {rt : Bool} {L : List UInt8 → Prop} {t : List UInt8} (ht : ∀ b, t ≠ 47 :: b) : FitL rt (LgB L) t true false ↔ FitL rt L t false true := by
  unfold FitL
  refine and_congr_right fun _ => ?_
  constructor
  · rintro (⟨_, u, v, rfl, hu, x, y, rfl, h⟩ | h)
    · refine .inr ⟨rfl, u ++ x, y, by simp, fun e => ?_, u, x, rfl, hu, h⟩
      have h1 := List.append_eq_nil_iff.1 e
      exact ht y (by rw [h1.1, h1.2]; rfl)
    · cases h.1
  · rintro (h | ⟨_, a, b, rfl, _, u, v, rfl, hu, h⟩)
    · cases h.1
    · exact .inl ⟨rfl, u, v ++ 47 :: b, by simp, hu, v, b, rfl, h⟩
theorem BelL_two {rt : Bool} {L : List UInt8 → Prop} {d : List UInt8} (hd : ∀ b, d ≠ 47 :: b) : BelL rt false (LgB L) d ↔ BelL rt true L d := by
  unfold BelL
  constructor
  · rintro (h | ⟨z, hz, u, v, e, hu, x, y, e2, h⟩)
    · cases h.1
    · have e3 : v ++ z = (x ++ [47]) ++ y := by rw [e2]; simp
      rcases List.append_eq_append_iff.1 e3 with ⟨c, e4, e5⟩ | ⟨c, e4, e5⟩
      · rcases List.eq_nil_or_concat c with rfl | ⟨c', w, rfl⟩
        · left
          rw [List.append_nil] at e4
          have hne : d ≠ [] := by
            intro h0
            subst h0
            rw [dirL, if_pos rfl, ← e4] at e
            simp at e
          rw [dirL, if_neg hne, ← e4, ← List.append_assoc] at e
          have e6 := (List.append_inj' e rfl).1
          exact ⟨rfl, hne, .inl ⟨rfl, u, x, e6, hu, h⟩⟩
        · right
          rw [List.concat_eq_append] at e4 e5
          rw [← List.append_assoc] at e4
          obtain ⟨e6, e7⟩ := List.append_inj' e4 rfl
          injection e7 with e7
          subst e7
          have hz2 : Tail (c' ++ 47 :: y) := by rw [e5] at hz; simpa using hz
          exact ⟨c', (Tail_behind hz2).1, u, v, e, hu, by rw [← e6]; exact h⟩
      · left
        have hne : d ≠ [] := by
          intro h0
          subst h0
          rw [dirL, if_pos rfl, e4] at e
          simp at e
        rw [dirL, if_neg hne, e4] at e
        rcases List.eq_nil_or_concat c with rfl | ⟨c', w, rfl⟩
        · rw [List.append_nil, ← List.append_assoc] at e
          have e6 := (List.append_inj' e rfl).1
          exact ⟨rfl, hne, .inl ⟨rfl, u, x, e6, hu, h⟩⟩
        · rw [List.concat_eq_append, show u ++ (x ++ [47] ++ (c' ++ [w])) = (u ++ x ++ 47 :: c') ++ [w] by simp] at e
          have e6 := (List.append_inj' e rfl).1
          refine ⟨rfl, hne, .inr ⟨rfl, u ++ x, c', e6, fun e7 => ?_, u, x, rfl, hu, h⟩⟩
          rw [e7] at e6
          exact hd _ e6
  · rintro (⟨_, hne, ⟨_, u, v, rfl, hu, h⟩ | ⟨_, a, b, rfl, _, u, v, rfl, hu, h⟩⟩ | ⟨z, hz, u, v, e, hu, h⟩)
    · refine .inr ⟨[97], Tail_a, u, v ++ [47], ?_, hu, v, [97], by simp, h⟩
      rw [dirL, if_neg hne]
      simp
    · refine .inr ⟨[97], Tail_a, u, v ++ 47 :: b ++ [47], ?_, hu, v, b ++ [47, 97], by simp, h⟩
      rw [dirL, if_neg hne]
      simp
    · exact .inr ⟨z ++ [47, 97], Tail_more hz, u, v, e, hu, v ++ z, [97], by simp, h⟩

/-! ### the words of the walks -/

theorem Beg_at (rt : Bool) (t : ByteArray) (i : Nat) (hi : i ≤ t.size) : BegAt rt t i ↔ Beg rt ((byts t).take i) := by
  unfold BegAt Beg
  have hl : (byts t).length = t.size := by simp [byts]
  constructor
  · rintro (rfl | ⟨h1, h2, h3, h4⟩)
    · exact .inl (by simp)
    · refine .inr ⟨h1, (byts t).take (i - 1), ?_⟩
      have hlt : i - 1 < (byts t).length := by omega
      have e := List.take_succ_eq_append_getElem hlt
      rw [show i - 1 + 1 = i by omega] at e
      rw [e, ← h4]
      rfl
  · rintro (h | ⟨h1, u, h2⟩)
    · left
      have := congrArg List.length h
      rw [List.length_take, List.length_nil] at this
      omega
    · right
      have hlen := congrArg List.length h2
      rw [List.length_take, List.length_append, List.length_singleton] at hlen
      have hlt : i - 1 < (byts t).length := by omega
      refine ⟨h1, by omega, by omega, ?_⟩
      have e := List.take_succ_eq_append_getElem hlt
      rw [show i - 1 + 1 = i by omega, h2] at e
      have e2 := (List.append_inj' e rfl).2
      injection e2 with e2
      rw [e2]
      rfl
theorem Reach_iff (rt : Bool) (ps : List Part) (t : ByteArray) (j : Nat) (hj : j ≤ t.size) : Reach rt ps t j ↔ RR rt (LP ps) ((byts t).take j) := by
  have hl : (byts t).length = t.size := by simp [byts]
  unfold Reach RR
  constructor
  · rintro ⟨i, h1, h2, h3⟩
    refine ⟨(byts t).take i, seg t i j, ?_, (Beg_at rt t i (by omega)).1 h2, h3⟩
    unfold seg
    have e := List.take_append_drop i ((byts t).take j)
    rw [List.take_take, Nat.min_eq_left h1] at e
    exact e.symm
  · rintro ⟨u, v, e, h2, h3⟩
    have hlen := congrArg List.length e
    rw [List.length_take, List.length_append] at hlen
    have e1 : (byts t).take u.length = u := by
      have := congrArg (List.take u.length) e
      rw [List.take_take, Nat.min_eq_left (by omega), List.take_left] at this
      exact this
    refine ⟨u.length, by omega, (Beg_at rt t _ (by omega)).2 (by rw [e1]; exact h2), ?_⟩
    unfold seg
    rw [e, List.drop_left]
    exact h3
theorem FitS_iff (rt : Bool) (ps : List Part) (t : ByteArray) (it ab : Bool) : FitS rt ps t it ab ↔ FitL rt (LP ps) (byts t) it ab := by
  have hl : (byts t).length = t.size := by simp [byts]
  unfold FitS FitL
  rw [Reach_iff rt ps t _ (Nat.le_refl _), List.take_of_length_le (by omega)]
  have h0 : 0 < t.size ↔ byts t ≠ [] := by
    rw [← hl]
    exact List.length_pos_iff
  refine and_congr h0 (or_congr Iff.rfl (and_congr_right fun _ => ?_))
  constructor
  · rintro ⟨j, h1, h2, h3, h4⟩
    refine ⟨(byts t).take j, (byts t).drop (j + 1), ?_, fun e => ?_, (Reach_iff rt ps t j (by omega)).1 h4⟩
    · have e := (List.take_append_drop j (byts t)).symm
      rw [List.drop_eq_getElem_cons (by omega)] at e
      have : (byts t)[j]'(by omega) = 47 := h3
      rw [this] at e
      exact e
    · have := congrArg List.length e
      rw [List.length_take, List.length_nil] at this
      omega
  · rintro ⟨a, b, e, h1, h2⟩
    have hlen := congrArg List.length e
    rw [List.length_append, List.length_cons] at hlen
    have hpos := List.length_pos_iff.2 h1
    refine ⟨a.length, hpos, by omega, ?_, (Reach_iff rt ps t _ (by omega)).2 (by rw [e, List.take_left]; exact h2)⟩
    have : (byts t)[a.length]'(by omega) = 47 := by
      have e3 : (byts t)[a.length]? = some 47 := by rw [e]; simp
      rw [List.getElem?_eq_getElem (by omega)] at e3
      injection e3
    exact this

/-! ### the parts that are put there -/

def slashB : ByteArray := ⟨#[47]⟩
def slashP : Part := .mk 1 slashB false [] []
def deepP : Part := .mk 4 ⟨#[]⟩ false [] []
def waysP : Part := .mk 6 ⟨#[]⟩ false [] [[], [deepP, slashP]]
theorem Lp_slash (l : List UInt8) : Lp slashP l ↔ l = [47] := by
  rw [Lp_eq]
  show (((1 : Int) = 1 ∧ l = [47]) ∨ _) ↔ _
  constructor
  · rintro (h | ⟨h, _⟩ | ⟨h, _⟩ | ⟨h, _⟩)
    · exact h.2
    · exact absurd h (by decide)
    · exact absurd h (by decide)
    · exact absurd h (by decide)
  · intro h; exact .inl ⟨rfl, h⟩
theorem Lp_deep (l : List UInt8) : Lp deepP l := by
  rw [Lp_eq]
  exact .inr (.inr (.inl ⟨.inr rfl, fun c _ => by unfold starB; exact Bool.or_true _⟩))
theorem LP_single (p : Part) (l : List UInt8) : LP [p] l ↔ Lp p l := LP_one p l
theorem LP_ways (ps : List Part) (l : List UInt8) : LP (waysP :: ps) l ↔ LgA (LP ps) l := by
  rw [LP_cons]
  have hw : ∀ a, Lp waysP a ↔ a = [] ∨ ∃ y, a = y ++ [47] := by
    intro a
    rw [Lp_eq]
    show ((((6 : Int) = 1) ∧ _) ∨ (_ ∧ _) ∨ (_ ∧ _) ∨ ((6 : Int) = 6 ∧ LW [[], [deepP, slashP]] a)) ↔ _
    rw [LW_cons, LP_nil, LW_cons, LW_nil, LP_cons]
    constructor
    · rintro (⟨h, _⟩ | ⟨h, _⟩ | ⟨h, _⟩ | ⟨_, h | ⟨y, b, rfl, _, h⟩ | h⟩)
      · exact absurd h (by decide)
      · exact absurd h (by decide)
      · exact absurd h (by decide)
      · exact .inl h
      · rw [LP_one, Lp_slash] at h; subst h; exact .inr ⟨y, rfl⟩
      · exact h.elim
    · rintro (h | ⟨y, rfl⟩)
      · exact .inr (.inr (.inr ⟨rfl, .inl h⟩))
      · exact .inr (.inr (.inr ⟨rfl, .inr (.inl ⟨y, [47], rfl, Lp_deep y, by rw [LP_one, Lp_slash]⟩)⟩))
  unfold LgA
  constructor
  · rintro ⟨a, b, rfl, h1, h2⟩
    rcases (hw a).1 h1 with rfl | ⟨y, rfl⟩
    · exact .inl h2
    · exact .inr ⟨y, b, by simp, h2⟩
  · rintro (h | ⟨y, l', rfl, h⟩)
    · exact ⟨[], l, rfl, (hw _).2 (.inl rfl), h⟩
    · exact ⟨y ++ [47], l', by simp, (hw _).2 (.inr ⟨y, rfl⟩), h⟩
theorem LP_slashdeep (ps : List Part) (l : List UInt8) : LP (ps ++ [slashP, deepP]) l ↔ LgB (LP ps) l := by
  rw [LP_append]
  unfold LgB
  constructor
  · rintro ⟨x, y, rfl, h1, h2⟩
    rw [LP_cons] at h2
    obtain ⟨a, b, rfl, h3, _⟩ := h2
    rw [Lp_slash] at h3
    subst h3
    exact ⟨x, b, rfl, h1⟩
  · rintro ⟨x, y, rfl, h⟩
    exact ⟨x, 47 :: y, rfl, h, by rw [LP_cons]; exact ⟨[47], y, rfl, (Lp_slash _).2 rfl, (LP_one _ _).2 (Lp_deep y)⟩⟩

/-- Neighbouring texts are one. -/
def joinAdd (out : List Part) (p : Part) : List Part :=
  match out.getLast? with
  | some q => if p.kind = 1 ∧ q.kind = 1 then out.dropLast ++ [.mk q.kind (q.text ++ p.text) q.neg q.ranges q.ways] else out ++ [p]
  | none => out ++ [p]
def joinL (l : List Part) : List Part := l.foldl joinAdd []
theorem LP_congr {a a' b b' : List Part} (ha : ∀ l, LP a l ↔ LP a' l) (hb : ∀ l, LP b l ↔ LP b' l) (l : List UInt8) : LP (a ++ b) l ↔ LP (a' ++ b') l := by
  rw [LP_append, LP_append]
  exact ⟨fun ⟨x, y, h1, h2, h3⟩ => ⟨x, y, h1, (ha _).1 h2, (hb _).1 h3⟩, fun ⟨x, y, h1, h2, h3⟩ => ⟨x, y, h1, (ha _).2 h2, (hb _).2 h3⟩⟩
theorem joinAdd_LP (out : List Part) (p : Part) (l : List UInt8) : LP (joinAdd out p) l ↔ LP (out ++ [p]) l := by
  unfold joinAdd
  rcases List.eq_nil_or_concat out with rfl | ⟨o, q, rfl⟩
  · rfl
  · rw [List.concat_eq_append, List.getLast?_append]
    dsimp only [List.getLast?_singleton, Option.or]
    split
    · rename_i hk
      rw [List.dropLast_concat, List.append_assoc]
      refine LP_congr (fun _ => Iff.rfl) (fun l => ?_) l
      rw [LP_one, Lp_eq]
      show ((q.kind = 1 ∧ l = byts (q.text ++ p.text)) ∨ _) ↔ LP ([q] ++ [p]) l
      rw [LP_append]
      have hq : ∀ x, LP [q] x ↔ x = byts q.text := fun x => by
        rw [LP_one, Lp_eq, hk.2]
        simp
      have hp : ∀ x, LP [p] x ↔ x = byts p.text := fun x => by
        rw [LP_one, Lp_eq, hk.1]
        simp
      have hcat : byts (q.text ++ p.text) = byts q.text ++ byts p.text := by
        unfold byts
        rw [ByteArray.data_append, Array.toList_append]
      constructor
      · rintro (⟨_, h⟩ | ⟨h, _⟩ | ⟨h, _⟩ | ⟨h, _⟩)
        · exact ⟨_, _, by rw [h, hcat], (hq _).2 rfl, (hp _).2 rfl⟩
        · have h : q.kind = 2 ∨ q.kind = 5 := h
          omega
        · have h : q.kind = 3 ∨ q.kind = 4 := h
          omega
        · have h : q.kind = 6 := h
          omega
      · rintro ⟨x, y, rfl, h1, h2⟩
        rw [hq] at h1
        rw [hp] at h2
        exact .inl ⟨hk.2, by rw [hcat, h1, h2]⟩
    · rfl
theorem joinL_LP (ps : List Part) (l : List UInt8) : LP (joinL ps) l ↔ LP ps l := by
  have key : ∀ (ps out : List Part) (l : List UInt8), LP (ps.foldl joinAdd out) l ↔ LP (out ++ ps) l := by
    intro ps
    induction ps with
    | nil => intro out l; simp
    | cons p ps ih =>
      intro out l
      rw [List.foldl_cons, ih, show out ++ p :: ps = (out ++ [p]) ++ ps by simp]
      exact LP_congr (joinAdd_LP out p) (fun _ => Iff.rfl) l
  exact key ps [] l

/-- The other glob's parts. -/
def hpsL (rt dirs : Bool) (ps : List Part) : List Part :=
  let l := if rt then ps else waysP :: ps
  if dirs then joinL (l ++ [slashP, deepP]) else l
theorem FitL_congr {rt it ab : Bool} {L L' : List UInt8 → Prop} (h : ∀ l, L l ↔ L' l) (t : List UInt8) : FitL rt L t it ab ↔ FitL rt L' t it ab := by
  have : L = L' := funext fun l => propext (h l)
  rw [this]
theorem BelL_congr {rt dirs : Bool} {L L' : List UInt8 → Prop} (h : ∀ l, L l ↔ L' l) (t : List UInt8) : BelL rt dirs L t ↔ BelL rt dirs L' t := by
  have : L = L' := funext fun l => propext (h l)
  rw [this]
theorem hps_fit (rt dirs : Bool) (ps : List Part) (t : List UInt8) (ht : ∀ b, t ≠ 47 :: b) : FitL true (LP (hpsL rt dirs ps)) t true false ↔ FitL rt (LP ps) t (!dirs) dirs := by
  have h1 : ∀ it ab, FitL true (LP (if rt then ps else waysP :: ps)) t it ab ↔ FitL rt (LP ps) t it ab := by
    intro it ab
    cases rt
    · simp only [Bool.false_eq_true, if_false]
      rw [FitL_congr (LP_ways ps)]
      exact FitL_one
    · rfl
  unfold hpsL
  cases dirs
  · exact h1 _ _
  · simp only [if_true]
    rw [FitL_congr (fun l => (joinL_LP _ l).trans (LP_slashdeep _ l)), FitL_two ht]
    exact h1 _ _
theorem hps_bel (rt dirs : Bool) (ps : List Part) (t : List UInt8) (ht : ∀ b, t ≠ 47 :: b) : BelL true false (LP (hpsL rt dirs ps)) t ↔ BelL rt dirs (LP ps) t := by
  have h1 : ∀ ds, BelL true ds (LP (if rt then ps else waysP :: ps)) t ↔ BelL rt ds (LP ps) t := by
    intro ds
    cases rt
    · simp only [Bool.false_eq_true, if_false]
      rw [BelL_congr (LP_ways ps)]
      exact BelL_one
    · rfl
  unfold hpsL
  cases dirs
  · exact h1 _
  · simp only [if_true]
    rw [BelL_congr (fun l => (joinL_LP _ l).trans (LP_slashdeep _ l)), BelL_two ht]
    exact h1 _

/-! ### the errors of the other glob -/

def Okq (p : Part) : Prop := (¬ (p.kind < 1 ∨ 6 < p.kind)) ∧ rangesF none p.ranges = 0 ∧ p.checkIn = 0
theorem checkL_okq : ∀ (l : List Part) (prev : Bool), checkL prev l = 0 → ∀ p ∈ l, Okq p
  | [], _, _, p, hp => by cases hp
  | q :: l, prev, h, p, hp => by
    rw [checkL_cons] at h
    split at h
    · cases h
    rename_i h1
    split at h
    · cases h
    split at h
    · cases h
    split at h
    · rename_i h2; exact absurd h h2
    rename_i h2
    split at h
    · rename_i h3; exact absurd h h3
    rename_i h3
    rcases List.mem_cons.1 hp with rfl | hp
    · exact ⟨h1, Decidable.not_not.1 h2, Decidable.not_not.1 h3⟩
    · exact checkL_okq l _ h p hp
theorem checkL_06 : ∀ (l : List Part) (prev : Bool), (∀ p ∈ l, Okq p) → checkL prev l = 0 ∨ checkL prev l = 6
  | [], _, _ => .inl (by rw [checkL])
  | q :: l, prev, h => by
    obtain ⟨h1, h2, h3⟩ := h q List.mem_cons_self
    rw [checkL_cons, if_neg h1]
    split
    · exact .inr rfl
    split
    · exact .inr rfl
    rw [if_neg (not_not_intro h2), if_neg (not_not_intro h3)]
    exact checkL_06 l _ fun p hp => h p (List.mem_cons_of_mem _ hp)
theorem joinAdd_okq {out : List Part} {p : Part} (h : ∀ q ∈ out, Okq q) (hp : Okq p) : ∀ q ∈ joinAdd out p, Okq q := by
  intro q hq
  unfold joinAdd at hq
  have hd : ∀ q ∈ out ++ [p], Okq q := by
    intro q hq
    rcases List.mem_append.1 hq with hq | hq
    · exact h q hq
    · rw [List.mem_singleton] at hq; subst hq; exact hp
  split at hq
  · rename_i x hx
    split at hq
    · rcases List.mem_append.1 hq with hq | hq
      · exact h q (List.dropLast_subset _ hq)
      · rw [List.mem_singleton] at hq
        subst hq
        have hx2 := h x (List.mem_of_getLast? hx)
        obtain ⟨h1, h2, h3⟩ := hx2
        refine ⟨h1, h2, ?_⟩
        rw [Part.checkIn_eq] at h3 ⊢
        exact h3
    · exact hd q hq
  · exact hd q hq
theorem joinL_okq {l : List Part} (h : ∀ q ∈ l, Okq q) : ∀ q ∈ joinL l, Okq q := by
  have key : ∀ (l out : List Part), (∀ q ∈ out, Okq q) → (∀ q ∈ l, Okq q) → ∀ q ∈ l.foldl joinAdd out, Okq q := by
    intro l
    induction l with
    | nil => intro out h1 _; exact h1
    | cons p l ih =>
      intro out h1 h2
      exact ih _ (joinAdd_okq h1 (h2 p List.mem_cons_self)) fun q hq => h2 q (List.mem_cons_of_mem _ hq)
  exact key l [] (fun q hq => by cases hq) h
theorem okq_slash : Okq slashP := ⟨by decide, by rfl, by rfl⟩
theorem okq_deep : Okq deepP := ⟨by decide, by rfl, by rfl⟩
theorem okq_ways : Okq waysP := by
  refine ⟨by decide, by rfl, ?_⟩
  rw [Part.checkIn_eq]
  show checkW [[], [deepP, slashP]] = 0
  rw [checkW_cons, checkW_cons, checkL, checkL_cons, checkL_cons, checkL, checkW]
  decide
theorem joinL_ne {l : List Part} (h : l ≠ []) : joinL l ≠ [] := by
  have key : ∀ (l out : List Part), out ≠ [] ∨ l ≠ [] → l.foldl joinAdd out ≠ [] := by
    intro l
    induction l with
    | nil => intro out h; exact h.resolve_right (fun h => h rfl)
    | cons p l ih =>
      intro out _
      refine ih _ (.inl ?_)
      unfold joinAdd
      split
      · split <;> simp
      · simp
  exact key l [] (.inr h)
theorem hps_check (rt dirs : Bool) (ps : List Part) (h : checkG ⟨rt, dirs, ps⟩ = 0) : checkG ⟨true, false, hpsL rt dirs ps⟩ = 0 ∨ checkG ⟨true, false, hpsL rt dirs ps⟩ = 6 ∨ checkG ⟨true, false, hpsL rt dirs ps⟩ = 8 := by
  have h1 : checkL false ps = 0 ∧ ps ≠ [] := by
    unfold checkG at h
    dsimp only at h
    split at h
    · cases h
    split at h
    · rename_i h2; exact absurd h h2
    rename_i h2
    split at h
    · cases h
    rename_i h3
    exact ⟨Decidable.not_not.1 h2, fun e => h3 (by rw [e]; rfl)⟩
  have ho := checkL_okq ps false h1.1
  have ho1 : ∀ p ∈ (if rt then ps else waysP :: ps), Okq p := by
    cases rt
    · intro p hp
      simp only [Bool.false_eq_true, if_false] at hp
      rcases List.mem_cons.1 hp with rfl | hp
      · exact okq_ways
      · exact ho p hp
    · exact ho
  have hne1 : (if rt then ps else waysP :: ps) ≠ [] := by
    cases rt
    · simp
    · exact h1.2
  have ho2 : ∀ p ∈ hpsL rt dirs ps, Okq p := by
    unfold hpsL
    cases dirs
    · exact ho1
    · simp only [if_true]
      refine joinL_okq fun q hq => ?_
      rcases List.mem_append.1 hq with hq | hq
      · exact ho1 q hq
      · simp at hq
        rcases hq with rfl | rfl
        · exact okq_slash
        · exact okq_deep
  have hne2 : hpsL rt dirs ps ≠ [] := by
    unfold hpsL
    cases dirs
    · exact hne1
    · simp only [if_true]
      exact joinL_ne (by simp)
  unfold checkG
  dsimp only
  split
  · exact .inr (.inr rfl)
  rcases checkL_06 (hpsL rt dirs ps) false ho2 with e | e
  · rw [if_neg (not_not_intro e), if_neg (fun h => hne2 (List.length_eq_zero_iff.1 h))]
    split
    · exact .inr (.inl rfl)
    split
    · exact .inr (.inr rfl)
    · exact .inl rfl
  · rw [if_pos (by rw [e]; decide)]
    exact .inr (.inl e)
end Go.Proofs.YtndfhicdabdafaaDoor
