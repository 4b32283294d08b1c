/- A part of the proof that the register's laws hold; no condition of its own. -/
import Derived.Test.YthbcabnljcpaiaaGreatDoorZB32
import Derived.Test.YthbcabnljcpaiaaGreatDoorCards
import Derived.Test.YthbcabnljcpaiaaGreatDoorTie
set_option linter.all false
namespace Go.Proofs.YthbcabnljcpaiaaGreatDoor.H
open Go.RowKit Go.Shelf Go.Lib Go.ChangeShapes Go.WideShapes Go.ChangeAt Go.Deep Go.Proofs.YthbcabnljcpaiaaGreatDoor.Q
set_option linter.unusedVariables false
theorem own : ownKnob Tryz.prog.godebug = none := by kernel_rfl
theorem laidOut : laidOutB Tryz.prog = true := by kernel_rfl
theorem laid_tail {x : String × DataW Unit} {rest : List (String × DataW Unit)} {W : World} (h : laidMet Tryz.prog (x :: rest) W) : laidMet Tryz.prog rest W := by
  obtain ⟨ps, ⟨g, t, cs, fuel, p, q, h1, h2, h3, h4, h5, rfl⟩, hnd, hall⟩ := h
  exact ⟨q, h5, (List.nodup_append.1 hnd).2.1, fun b off hb => hall b off (List.mem_append_right _ hb)⟩
theorem table {W : World} (h : laidMetH Tryz.prog Rows.registerOrderRow.laid W) : Tab W := by
  have h' : laidMet Tryz.prog [("math/bits.deBruijn32tab", Rows.laid_math_bits_deBruijn32tab), ("math/bits.deBruijn64tab", Rows.laid_math_bits_deBruijn64tab), ("internal/strconv.uint64pow10", Rows.laid_internal_strconv_uint64pow10), ("unicode/utf8.acceptRanges", Rows.laid_unicode_utf8_acceptRanges), ("strconv.ErrRange", Rows.laid_strconv_ErrRange), ("strconv.ErrSyntax", Rows.laid_strconv_ErrSyntax), ("unicode/utf8.first", Rows.laid_unicode_utf8_first)] W := h
  have h2 := laid_tail (laid_tail h')
  exact Lib.tabIs_of_head (zs := Lib.pow10Tab) (k := .u64) (g := 2) (t := 225) (e := 167) (n := 20) (by kernel_rfl) (by kernel_rfl) Tryz.underlying225 Tryz.underlying167 (by kernel_rfl) (by kernel_rfl) h2
def vals : DataW Unit → List Value
  | .lit (.int k n) => [.int k n]
  | .agg l => valsL l
  | _ => []
where valsL : List (DataW Unit) → List Value
  | [] => []
  | d :: l => vals d ++ valsL l
def laySet (cs : List Value) : Obj → Obj
  | .cells _ t frozen => .cells cs.toArray t frozen
  | o => o
noncomputable def low : Nat := (World.holding Tryz.prog default ⟨#[], #[], []⟩).heap.size
noncomputable def laidWorld (os : Os) : World :=
  let w0 := World.holding Tryz.prog os ⟨#[.cells #[.string ⟨#[105, 110, 118, 97, 108, 105, 100, 32, 115, 121, 110, 116, 97, 120]⟩] 220, .cells #[.string ⟨#[118, 97, 108, 117, 101, 32, 111, 117, 116, 32, 111, 102, 32, 114, 97, 110, 103, 101]⟩] 220], #[], []⟩
  { w0 with heap := ((((((w0.heap.modify 0 (laySet [.iface 218 (.pointer (some ⟨low, 0, none⟩))])).modify 1 (laySet [.iface 218 (.pointer (some ⟨low + 1, 0, none⟩))])).modify 2 (laySet (vals Rows.laid_internal_strconv_uint64pow10))).modify 3 (laySet (vals Rows.laid_unicode_utf8_first))).modify 4 (laySet (vals Rows.laid_unicode_utf8_acceptRanges))).modify 5 (laySet (vals Rows.laid_math_bits_deBruijn32tab))).modify 6 (laySet (vals Rows.laid_math_bits_deBruijn64tab)) }
theorem laid_met (os : Os) : laidMet Tryz.prog Rows.registerOrderRow.laid ((laidWorld os).forCall (fun _ _ => 0) ⟨#[], #[.slice none 0 0, .int .i64 0], []⟩).memory :=
  laidMet_of_run' 8 (by kernel_rfl) (by kernel_rfl)
end Go.Proofs.YthbcabnljcpaiaaGreatDoor.H
