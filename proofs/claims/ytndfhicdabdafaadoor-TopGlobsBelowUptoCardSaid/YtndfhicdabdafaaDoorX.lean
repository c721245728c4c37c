/- Sizes of globs, and more of the plain law. -/
import Derived.Test.YtndfhicdabdafaaDoorR
import Derived.Test.YtndfhicdabdafaaDoorC21
namespace Go.Proofs.YtndfhicdabdafaaDoor
open Go Go.RowKit

mutual
/-- How much a part holds, at least. -/
def Part.sz : Part → Nat
  | .mk _ t _ rs ws => 1 + t.size + rs.length + szW ws
def szL : List Part → Nat
  | [] => 0
  | p :: ps => p.sz + szL ps
def szW : List (List Part) → Nat
  | [] => 0
  | x :: xs => 1 + szL x + szW xs
end
theorem Part.sz_eq (p : Part) : p.sz = 1 + p.text.size + p.ranges.length + szW p.ways := by cases p; simp only [Part.sz]; rfl
theorem szL_nil : szL [] = 0 := by rw [szL]
theorem szL_cons (p : Part) (ps : List Part) : szL (p :: ps) = p.sz + szL ps := by rw [szL]
theorem szW_nil : szW [] = 0 := by rw [szW]
theorem szW_cons (x : List Part) (xs : List (List Part)) : szW (x :: xs) = 1 + szL x + szW xs := by rw [szW]
theorem szL_append (a b : List Part) : szL (a ++ b) = szL a + szL b := by
  induction a with
  | nil => rw [List.nil_append, szL_nil, Nat.zero_add]
  | cons p a ih => rw [List.cons_append, szL_cons, szL_cons, ih]; omega
mutual
theorem Part.nst_sz : ∀ p : Part, p.nst ≤ p.sz
  | .mk _ t _ rs ws => by
    have := nstW_sz ws
    simp only [Part.nst, Part.sz]
    omega
theorem nstL_sz : ∀ ps : List Part, nstL ps ≤ szL ps
  | [] => by rw [nstL, szL]; exact Nat.le_refl _
  | p :: ps => by
    have h1 := Part.nst_sz p
    have h2 := nstL_sz ps
    rw [nstL, szL]; omega
theorem nstW_sz : ∀ ws : List (List Part), nstW ws ≤ szW ws
  | [] => by rw [nstW, szW]; exact Nat.le_refl _
  | x :: xs => by
    have h1 := nstL_sz x
    have h2 := nstW_sz xs
    rw [nstW, szW]; omega
end
mutual
theorem Part.cnt_sz : ∀ p : Part, p.cnt ≤ p.sz
  | .mk _ t _ rs ws => by
    have := cntW_sz ws
    simp only [Part.cnt, Part.sz]
    omega
theorem cntP_sz : ∀ ps : List Part, cntP ps ≤ szL ps
  | [] => by rw [cntP, szL]; exact Nat.le_refl _
  | p :: ps => by
    have h1 := Part.cnt_sz p
    have h2 := cntP_sz ps
    rw [cntP, szL]; omega
theorem cntW_sz : ∀ ws : List (List Part), cntW ws ≤ szW ws
  | [] => by rw [cntW, szW]; exact Nat.le_refl _
  | x :: xs => by
    have h1 := cntP_sz x
    have h2 := cntW_sz xs
    rw [cntW, szW]; omega
end
theorem escLz (some s : List UInt8) : (escL some s).length ≤ 2 * s.length := by
  unfold escL
  induction s with
  | nil => simp
  | cons c s ih =>
    rw [List.flatMap_cons, List.length_append, List.length_cons]
    have : (if c ∈ some then [92, c] else [c]).length ≤ 2 := by split <;> simp
    omega
theorem rangeLz (r : Int × Int) : (rangeL r).length ≤ 5 := by
  unfold rangeL boundL
  have h1 := escLz [92, 93, 94, 45] [byteI r.1]
  have h2 := escLz [92, 93, 94, 45] [byteI r.2]
  simp only [List.length_append, List.length_cons, List.length_nil] at *
  have h3 : (if IntKind.i64.wrap (r.1 + 1) < r.2 then [(45 : UInt8)] else []).length ≤ 1 := by split <;> simp
  have h4 : (if r.1 < r.2 then escL [92, 93, 94, 45] [byteI r.2] else []).length ≤ 2 := by
    split
    · omega
    · exact Nat.zero_le _
  omega
theorem setLz (p : Part) : (setL p).length ≤ 3 + 5 * p.ranges.length := by
  unfold setL
  have h1 : (if p.neg then [(94 : UInt8)] else []).length ≤ 1 := by split <;> simp
  have h2 : ∀ l : List (Int × Int), (l.flatMap rangeL).length ≤ 5 * l.length := by
    intro l
    induction l with
    | nil => simp
    | cons r l ih =>
      rw [List.flatMap_cons, List.length_append, List.length_cons]
      have := rangeLz r
      omega
  have h3 := h2 p.ranges
  simp only [List.length_append, List.length_cons, List.length_nil]
  omega
mutual
theorem Part.print_sz : ∀ (p : Part) (b : Bool), (p.print b).length ≤ 10 * p.sz
  | .mk k t n rs ws, b => by
    have h1 := printW_sz ws true
    have h2 := setLz (.mk k t n rs ws)
    have h3 := escLz (someL b) (byts t)
    have h4 : (byts t).length = t.size := by simp [byts]
    have h5 : (Part.mk k t n rs ws).ranges.length = rs.length := rfl
    simp only [Part.sz]
    rw [Part.print]
    split
    · omega
    split
    · simp; omega
    split
    · simp; omega
    split
    · simp; omega
    split
    · omega
    split
    · rw [List.length_append]; simp; omega
    · simp
theorem printL_sz : ∀ (ps : List Part) (b : Bool), (printL b ps).length ≤ 10 * szL ps
  | [], b => by rw [printL]; simp
  | p :: ps, b => by
    have h1 := Part.print_sz p b
    have h2 := printL_sz ps b
    rw [printL, szL, List.length_append]; omega
theorem printW_sz : ∀ (ws : List (List Part)) (b : Bool), (printW b ws).length ≤ 10 * szW ws
  | [], b => by rw [printW]; simp
  | x :: xs, b => by
    have h1 := printL_sz x true
    have h2 := printW_sz xs false
    rw [printW, szW, List.length_cons, List.length_append]; omega
end
theorem text_sz {ps : List Part} {p : Part} (h : p ∈ ps) : p.text.size ≤ szL ps := by
  induction ps with
  | nil => cases h
  | cons q ps ih =>
    rw [szL_cons]
    rcases List.mem_cons.1 h with rfl | h
    · have := p.sz_eq; omega
    · have := ih h; omega
theorem len_sz (ps : List Part) : ps.length ≤ szL ps := by
  induction ps with
  | nil => simp
  | cons q ps ih => rw [szL_cons, List.length_cons]; have := q.sz_eq; omega
theorem joinAdd_sz (out : List Part) (p : Part) : szL (joinAdd out p) ≤ szL out + p.sz := by
  have hp : szL (out ++ [p]) = szL out + p.sz := by rw [szL_append, szL_cons, szL_nil]; omega
  unfold joinAdd
  rcases List.eq_nil_or_concat out with rfl | ⟨o, q, rfl⟩
  · simp only [List.getLast?_nil]; omega
  · rw [List.concat_eq_append] at *
    rw [List.getLast?_append]
    dsimp only [List.getLast?_singleton, Option.or]
    split
    · rw [List.dropLast_concat, szL_append, szL_append, szL_cons, szL_cons, szL_nil]
      have h1 := q.sz_eq
      have h2 := p.sz_eq
      have h3 : (Part.mk q.kind (q.text ++ p.text) q.neg q.ranges q.ways).sz = 1 + (q.text ++ p.text).size + q.ranges.length + szW q.ways := by simp only [Part.sz]
      rw [ByteArray.size_append] at h3
      omega
    · omega
theorem joinL_sz (l : List Part) : szL (joinL l) ≤ szL l := by
  have key : ∀ (l out : List Part), szL (l.foldl joinAdd out) ≤ szL out + szL l := by
    intro l
    induction l with
    | nil => intro out; rw [szL_nil]; exact Nat.le_refl _
    | cons p l ih =>
      intro out
      have h1 := ih (joinAdd out p)
      have h2 := joinAdd_sz out p
      rw [List.foldl_cons, szL_cons]
      omega
  have := key l []
  rw [szL_nil] at this
  unfold joinL
  omega
theorem sz_slash : slashP.sz = 2 := by rw [Part.sz_eq]; show 1 + 1 + 0 + szW [] = 2; rw [szW_nil]
theorem sz_deep : deepP.sz = 1 := by rw [Part.sz_eq]; show 1 + 0 + 0 + szW [] = 1; rw [szW_nil]
theorem sz_ways : waysP.sz = 6 := by
  rw [Part.sz_eq]
  show 1 + 0 + 0 + szW [[], [deepP, slashP]] = 6
  rw [szW_cons, szW_cons, szW_nil, szL_nil, szL_cons, szL_cons, szL_nil, sz_slash, sz_deep]
theorem hps_sz (rt dr : Bool) (ps : List Part) : szL (hpsL rt dr ps) ≤ szL ps + 9 := by
  have h1 : szL (if rt then ps else waysP :: ps) ≤ szL ps + 6 := by
    cases rt
    · simp only [Bool.false_eq_true, if_false]; rw [szL_cons, sz_ways]; omega
    · simp
  unfold hpsL
  cases dr
  · simp only [Bool.false_eq_true, if_false]; omega
  · simp only [if_true]
    have h2 := joinL_sz ((if rt then ps else waysP :: ps) ++ [slashP, deepP])
    rw [szL_append, szL_cons, szL_cons, szL_nil, sz_slash, sz_deep] at h2
    omega

/-- A path that is right does not begin with a slash. -/
theorem noslash {t : ByteArray} (h : checkPath t = 0) : ∀ b, byts t ≠ 47 :: b := by
  intro b e
  have hpos : 0 < t.size := by
    have := congrArg List.length e
    rw [show (byts t).length = t.size by simp [byts]] at this
    simp at this
    omega
  have h0 : (byts t)[0]'(by rw [show (byts t).length = t.size by simp [byts]]; exact hpos) = 47 := by
    have e2 : (byts t)[0]? = some 47 := by rw [e]; rfl
    rw [List.getElem?_eq_getElem (by rw [show (byts t).length = t.size by simp [byts]]; exact hpos)] at e2
    injection e2
  have hix : Lib.indexB t ⟨#[47]⟩ = ((0 : Nat) : Int) := by
    show Lib.index (byts t) [47] = 0
    rw [e]
    unfold Lib.index
    rfl
  unfold checkPath at h
  split at h
  · rename_i he; subst he; exact absurd hpos (by decide)
  split at h
  · cases h
  split at h
  · rename_i hall
    have hc := Lib.countB_hit t ⟨#[47]⟩ 0 (by decide) hix
    rw [hc] at hall
    rw [Nat.add_comm, Lib.splitB_hit ⟨#[47]⟩ 0 _ t 0 hix, List.all_cons, Bool.and_eq_true] at hall
    have h3 := hall.1
    have h4 : t.extract 0 (0 + 0) = ⟨#[]⟩ := by
      apply byts_ext
      simp [byts]
    rw [h4] at h3
    cases h3
  · cases h
end Go.Proofs.YtndfhicdabdafaaDoor
