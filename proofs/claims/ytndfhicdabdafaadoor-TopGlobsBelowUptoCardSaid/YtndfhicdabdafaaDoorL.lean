/- Functions of the library whose contracts the kit has proved: laid at this dump. -/
import Derived.Test.YtndfhicdabdafaaDoorKt
import Derived.Ground.NamesProg
import Derived.Shelf.Vars
import Derived.Shelf.Strings.Split
import Derived.Shelf.Small.Utf8
import Derived.Shelf.Strings.AsciiSet
import Derived.Test.YtndfhicdabdafaaDoorKd
namespace Go.Proofs
open Go Go.RowKit Go.Shelf

def Tryd.laysSplit_ren : Go.Shelf.Ren := ⟨fun | 146 => 19 | 221 => 35 | 268 => 49 | 138 => 50 | 143 => 51 | 195 => 62 | 197 => 63 | 218 => 64 | 219 => 65 | 260 => 73 | 217 => 70 | 225 => 74 | 224 => 75 | 267 => 76 | 266 => 78 | 314 => 79 | n => n, fun | 9 => 9 | 31 => 46 | 3 => 3 | 4 => 4 | 0 => 0 | 105 => 106 | 21 => 21 | 5 => 5 | 46 => 117 | 119 => 120 | 139 => 123 | 138 => 122 | 146 => 125 | 51 => 124 | n => n, fun | 1 => 0 | 3 => 1 | 4 => 2 | n => n⟩
theorem Tryd.laysSplit : Go.Proofs.Lays.n146 Tryd.prog Tryd.laysSplit_ren := {
  mixed := by kernel_rfl,
  f138 := Tryd.func50.trans (congrArg some (by kernel_rfl)),
  f143 := Tryd.func51.trans (congrArg some (by kernel_rfl)),
  f146 := Tryd.func19.trans (congrArg some (by kernel_rfl)),
  f195 := Tryd.func62.trans (congrArg some (by kernel_rfl)),
  f197 := Tryd.func63.trans (congrArg some (by kernel_rfl)),
  f217 := Tryd.func70.trans (congrArg some (by kernel_rfl)),
  f218 := Tryd.func64.trans (congrArg some (by kernel_rfl)),
  f219 := Tryd.func65.trans (congrArg some (by kernel_rfl)),
  f221 := Tryd.func35.trans (congrArg some (by kernel_rfl)),
  f224 := Tryd.func75.trans (congrArg some (by kernel_rfl)),
  f225 := Tryd.func74.trans (congrArg some (by kernel_rfl)),
  f260 := Tryd.func73.trans (congrArg some (by kernel_rfl)),
  f266 := Tryd.func78.trans (congrArg some (by kernel_rfl)),
  f267 := Tryd.func76.trans (congrArg some (by kernel_rfl)),
  f268 := Tryd.func49.trans (congrArg some (by kernel_rfl)),
  f314 := Tryd.func79.trans (congrArg some (by kernel_rfl)),
  t0 := Tryd.underlying0,
  a0 := Tryd.isAgg0,
  z0 := Tryd.sizeOf0,
  v0 := Tryd.zeroValue0,
  t3 := Tryd.underlying3,
  a3 := Tryd.isAgg3,
  z3 := Tryd.sizeOf3,
  v3 := Tryd.zeroValue3,
  t4 := Tryd.underlying4,
  a4 := Tryd.isAgg4,
  z4 := Tryd.sizeOf4,
  v4 := Tryd.zeroValue4,
  t5 := Tryd.underlying5,
  a5 := Tryd.isAgg5,
  z5 := Tryd.sizeOf5,
  v5 := Tryd.zeroValue5,
  t9 := Tryd.underlying9,
  a9 := Tryd.isAgg9,
  z9 := Tryd.sizeOf9,
  v9 := Tryd.zeroValue9,
  t21 := Tryd.underlying21,
  a21 := Tryd.isAgg21,
  z21 := Tryd.sizeOf21,
  v21 := Tryd.zeroValue21,
  t31 := Tryd.underlying46,
  a31 := Tryd.isAgg46,
  z31 := Tryd.sizeOf46,
  v31 := Tryd.zeroValue46,
  t46 := Tryd.underlying117,
  a46 := Tryd.isAgg117,
  z46 := Tryd.sizeOf117,
  v46 := Tryd.zeroValue117,
  t51 := Tryd.underlying124,
  a51 := Tryd.isAgg124,
  z51 := Tryd.sizeOf124,
  v51 := Tryd.zeroValue124,
  t105 := Tryd.underlying106,
  a105 := Tryd.isAgg106,
  z105 := Tryd.sizeOf106,
  v105 := Tryd.zeroValue106,
  t119 := Tryd.underlying120,
  a119 := Tryd.isAgg120,
  z119 := Tryd.sizeOf120,
  t138 := Tryd.underlying122,
  a138 := Tryd.isAgg122,
  z138 := Tryd.sizeOf122,
  v138 := Tryd.zeroValue122,
  t139 := Tryd.underlying123,
  a139 := Tryd.isAgg123,
  z139 := Tryd.sizeOf123,
  v139 := Tryd.zeroValue123,
  t146 := Tryd.underlying125,
  a146 := Tryd.isAgg125,
  z146 := Tryd.sizeOf125,
  v146 := Tryd.zeroValue125,
  g1 := by kernel_rfl,
  g3 := by kernel_rfl,
  g4 := by kernel_rfl }
def Tryd.laysValid_ren : Go.Shelf.Ren := ⟨fun | 119 => 77 | n => n, fun | 21 => 21 | 4 => 4 | n => n, fun | n => n⟩
theorem Tryd.laysValid : Go.Proofs.Lays.n119 Tryd.prog Tryd.laysValid_ren := {
  mixed := by kernel_rfl,
  f119 := Tryd.func77.trans (congrArg some (by kernel_rfl)),
  t4 := Tryd.underlying4,
  a4 := Tryd.isAgg4,
  z4 := Tryd.sizeOf4,
  v4 := Tryd.zeroValue4,
  t21 := Tryd.underlying21,
  a21 := Tryd.isAgg21,
  z21 := Tryd.sizeOf21,
  v21 := Tryd.zeroValue21 }
def Tryd.laysSet_ren : Go.Shelf.Ren := ⟨fun | 227 => 68 | n => n, fun | 9 => 9 | 116 => 110 | 4 => 4 | 0 => 0 | 3 => 3 | 5 => 5 | n => n, fun | n => n⟩
theorem Tryd.laysSet : Go.Proofs.Lays.n227 Tryd.prog Tryd.laysSet_ren := {
  mixed := by kernel_rfl,
  f227 := Tryd.func68.trans (congrArg some (by kernel_rfl)),
  t0 := Tryd.underlying0,
  a0 := Tryd.isAgg0,
  z0 := Tryd.sizeOf0,
  v0 := Tryd.zeroValue0,
  t3 := Tryd.underlying3,
  a3 := Tryd.isAgg3,
  z3 := Tryd.sizeOf3,
  v3 := Tryd.zeroValue3,
  t4 := Tryd.underlying4,
  a4 := Tryd.isAgg4,
  z4 := Tryd.sizeOf4,
  v4 := Tryd.zeroValue4,
  t5 := Tryd.underlying5,
  a5 := Tryd.isAgg5,
  z5 := Tryd.sizeOf5,
  v5 := Tryd.zeroValue5,
  t9 := Tryd.underlying9,
  a9 := Tryd.isAgg9,
  z9 := Tryd.sizeOf9,
  v9 := Tryd.zeroValue9,
  t116 := Tryd.underlying110,
  a116 := Tryd.isAgg110,
  z116 := Tryd.sizeOf110 }
def Tryd.laysHas_ren : Go.Shelf.Ren := ⟨fun | 228 => 69 | n => n, fun | 124 => 119 | 5 => 5 | 4 => 4 | 0 => 0 | 116 => 110 | n => n, fun | n => n⟩
theorem Tryd.laysHas : Go.Proofs.Lays.n228 Tryd.prog Tryd.laysHas_ren := {
  mixed := by kernel_rfl,
  f228 := Tryd.func69.trans (congrArg some (by kernel_rfl)),
  t0 := Tryd.underlying0,
  a0 := Tryd.isAgg0,
  z0 := Tryd.sizeOf0,
  v0 := Tryd.zeroValue0,
  t4 := Tryd.underlying4,
  a4 := Tryd.isAgg4,
  z4 := Tryd.sizeOf4,
  v4 := Tryd.zeroValue4,
  t5 := Tryd.underlying5,
  a5 := Tryd.isAgg5,
  z5 := Tryd.sizeOf5,
  v5 := Tryd.zeroValue5,
  t116 := Tryd.underlying110,
  a116 := Tryd.isAgg110,
  z116 := Tryd.sizeOf110,
  t124 := Tryd.underlying119,
  a124 := Tryd.isAgg119,
  z124 := Tryd.sizeOf119,
  v124 := Tryd.zeroValue119 }

theorem Tryd.split_c (s sep : ByteArray) (m : Int) (w : World) (hs : s.size < 4294967281) (hm : w.cell? ⟨Tryd.laysSplit_ren.g 1, 0, none⟩ = some (.int .i64 m)) (h1 : 1 ≤ sep.size) :
    Calls Tryd.prog 19 #[.string s, .string sep] w fun e w' =>
      e = .returned (.slice (some ⟨w.heap.size, 0, none⟩) (Lib.countB s sep + 1) (Lib.countB s sep + 1)) ∧ w' = w.alloc (.cells ((Lib.splitB sep 0 (Lib.countB s sep) s).map Value.string).toArray 9) :=
  Any.strings_Split Tryd.laysSplit (by kernel_rfl) s sep m w hs hm h1
end Go.Proofs
namespace Go.Proofs.YtndfhicdabdafaaDoor
open Go Go.RowKit Go.Shelf
theorem isGo {P : Program} {f : FuncId} {fn : Func} (h : P.funcs[f]? = some fn) (h1 : fn.body.isNone = false) (h2 : (fn.name == "runtime.NumGoroutine") = false) : IsGo P f := ⟨fn, h, h1, h2⟩
theorem fun_calls {P : Program} {f : FuncId} {xs : List Value} {w : World} {R : Value → World → Prop} {R' : Ending → World → Prop} (hg : IsGo P f) (h : Calls P f xs.toArray w R') (hr : ∀ e w', R' e w' → ∃ v, e = .returned v ∧ R v w') : Fun P f xs w R := by
  unfold Fun
  exact ⟨hg, h.mono hr⟩

theorem validRune_ok (r : Int) (w : World) : Fun Tryd.prog 77 [.int .i32 r] w (fun v w' => v = .bool (Lib.validRune r) ∧ w = w') :=
  fun_calls (isGo Tryd.func77 (by kernel_rfl) (by kernel_rfl)) (Any.utf8_ValidRune Tryd.laysValid r w) (by rintro _ _ ⟨rfl, rfl⟩; exact ⟨_, rfl, rfl, rfl⟩)
theorem split_ok (s : ByteArray) (m : Int) (w : World) (hs : s.size ≤ 1099511627) (hm : w.cell? ⟨0, 0, none⟩ = some (.int .i64 m)) :
    Fun Tryd.prog 19 [.string s, .string ⟨#[47]⟩] w (fun v w' => ∃ g, v = .slice (some ⟨g, 0, none⟩) (Lib.countB s ⟨#[47]⟩ + 1) (Lib.countB s ⟨#[47]⟩ + 1) ∧ Blk w' g 9 ((Lib.splitB ⟨#[47]⟩ 0 (Lib.countB s ⟨#[47]⟩) s).map Value.string) ∧ Ext w w') :=
  fun_calls (isGo Tryd.func19 (by kernel_rfl) (by kernel_rfl)) (Tryd.split_c s ⟨#[47]⟩ m w (by omega) hm (by decide)) (by
    rintro _ _ ⟨rfl, rfl⟩
    exact ⟨_, rfl, _, rfl, blk_push _ _ _, ext_push _ _⟩)
theorem makeSet_ok (w : World) : Fun Tryd.prog 68 [.string ⟨#[0, 47]⟩] w (fun v w' => v = .tuple #[.agg (Lib.setCells [0, 47]), .bool true] ∧ Ext w w') :=
  fun_calls (isGo Tryd.func68 (by kernel_rfl) (by kernel_rfl)) (Any.strings_makeASCIISet Tryd.laysSet (fun _ => (TI.mk (by kernel_rfl) : TI Tryd.prog _ (.agg (Array.replicate 256 (.bool false))) 256 256).zero) (by kernel_rfl) ⟨#[0, 47]⟩ w (by decide) (by
    intro j b hb
    have h1 := List.mem_of_getElem? hb
    have h2 : b ∈ [(0 : UInt8), 47] := h1
    simp at h2
    rcases h2 with rfl | rfl <;> decide)) (by
    rintro _ _ ⟨rfl, rfl⟩
    exact ⟨_, rfl, rfl, ext_push _ _⟩)
theorem setHas_ok (b : Nat) (x : UInt8) (v : Bool) (w : World) (hc : w.cell? ⟨b, x.toNat, none⟩ = some (.bool v)) : Fun Tryd.prog 69 [.pointer (some ⟨b, 0, none⟩), .int .u8 (x.toNat : Int)] w (fun u w' => u = .bool v ∧ w = w') :=
  fun_calls (isGo Tryd.func69 (by kernel_rfl) (by kernel_rfl)) (Any.asciiSet_contains Tryd.laysHas b x v w hc) (by rintro _ _ ⟨rfl, rfl⟩; exact ⟨_, rfl, rfl, rfl⟩)
end Go.Proofs.YtndfhicdabdafaaDoor
