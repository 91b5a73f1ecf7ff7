/- The start at which the listed variables lie as their initialisers lay them, and what a row knows of these variables. -/
import Derived.Test.YthkffcnifhcjoaaDoorRows
import Derived.Test.YthkffcnifhcjoaaDoorEnv
import Derived.Deep.DeepHandedRow
import Derived.Deep.DeepWitnessRowRef
import Derived.Lib.LaidIn
import Derived.Lib.LaidU8
import Derived.Stop.LaidErr
import Derived.ProofKit
import Derived.SizedLaws
import Derived.LaidLaws
set_option linter.unusedSimpArgs false
set_option linter.unusedVariables false
namespace Go.Proofs.YthkffcnifhcjoaaDoor
open Go.ChangeShapes Go.WideShapes Go.ChangeAt Go.RowKit Go.Lib

theorem ownKnobIs : ownKnob Tryd.prog.godebug = none := by kernel_rfl
theorem laidOutIs : laidOutB Tryd.prog = true := by kernel_rfl
theorem starIs : "*" ++ "errors.errorString" = "*errors.errorString" := by decide
theorem errRow (u : TypeId) (h : Tryd.prog.typeName? 3 u = some "*errors.errorString") : u = 116 :=
  typeName_ptr_named (nm := "errors.errorString") (by rw [starIs]; kernel_rfl) (by kernel_rfl) (by decide) u (by rw [starIs]; exact h)

abbrev synS : ByteArray := { data := #[105, 110, 118, 97, 108, 105, 100, 32, 115, 121, 110, 116, 97, 120] }
abbrev rngS : ByteArray := { data := #[118, 97, 108, 117, 101, 32, 111, 117, 116, 32, 111, 102, 32, 114, 97, 110, 103, 101] }
/-- The cells of a datum that is an array of numbers. -/
def cellsD : DataW Unit → Array Value
  | .agg l => (l.map fun | .lit (.int k z) => Value.int k z | _ => .bool false).toArray
  | _ => #[]
/-- The world of the witness: the settled one, the listed variables as their initialisers lay them, and more blocks behind. -/
noncomputable def laidWorld (os : Os) (more : Array Obj) : World :=
  let N := (World.settled Tryd.prog os).heap.size
  let w0 := World.holding Tryd.prog os ⟨#[.cells #[.string synS] 118, .cells #[.string rngS] 118] ++ more, #[], []⟩
  let put (h : Array Obj) (g : Nat) (cs : Array Value) : Array Obj := h.modify g fun
    | .cells _ t frozen => .cells cs t frozen
    | o => o
  let h0 := put (put w0.heap 0 #[.iface 116 (.pointer (some ⟨N, 0, none⟩))]) 1 #[.iface 116 (.pointer (some ⟨N + 1, 0, none⟩))]
  let h1 := put h0 2 (cellsD Rows.laid_internal_strconv_uint64pow10)
  let h2 := put h1 6 (cellsD Rows.laid_math_bits_deBruijn32tab)
  let h3 := put h2 7 (cellsD Rows.laid_math_bits_deBruijn64tab)
  let h4 := put h3 4 (cellsD Rows.laid_unicode_utf8_first)
  let h5 := put h4 5 ((List.range 16).flatMap fun i => [Value.int .u8 (Lib.accLo i), Value.int .u8 (Lib.accHi i)]).toArray
  { w0 with heap := h5 }
noncomputable abbrev N0 : Nat := (World.settled Tryd.prog default).heap.size

abbrev theLaid : List (String × DataW Unit) := Rows.progOddRow.laid
set_option maxRecDepth 1000000 in
theorem laid_met (os : Os) (args : Array Value) : laidMet Tryd.prog theLaid ((laidWorld os #[]).forCall (fun _ _ => 0) ⟨#[], args, []⟩).memory :=
  laidMet_of_run3 8 (by kernel_rfl) (by kernel_rfl) (by kernel_rfl)

/-- The program's rows behind its variables are there. -/
theorem low_of_shaped {w : World} (h : w.ShapedOpen Tryd.prog) : Tryd.prog.low ≤ w.heap.size := by
  have hl : Tryd.prog.globals.size < Tryd.prog.low := of_decide_eq_true (by kernel_rfl)
  obtain ⟨o, _, ho, _⟩ := h.2 (Tryd.prog.low - 1) (by omega) (by unfold Program.low; unfold Program.low at hl; omega)
  have := (Array.getElem?_eq_some_iff.1 ho).1
  omega

theorem env_of_laid {W : World} (hL : laidMet Tryd.prog theLaid W) (hS : W.ShapedOpen Tryd.prog) : Env W := by
  obtain ⟨a0, t0, hv0, _⟩ := laid_sentinel (g := 1) hL.tail.tail.tail.tail (by kernel_rfl) (by kernel_rfl) Tryd.underlying66 errRow Tryd.underlying116 Tryd.underlying118 rfl rfl Tryd.underlying9 (by kernel_rfl) (by kernel_rfl)
  obtain ⟨a1, t1, hv1, _⟩ := laid_sentinel (g := 0) hL.tail.tail.tail.tail.tail (by kernel_rfl) (by kernel_rfl) Tryd.underlying66 errRow Tryd.underlying116 Tryd.underlying118 rfl rfl Tryd.underlying9 (by kernel_rfl) (by kernel_rfl)
  refine ⟨hS, low_of_shaped hS, ?_, ⟨_, _, hv1⟩, ⟨_, _, hv0⟩⟩
  exact tabIs_of_head (g := 2) (zs := Lib.pow10Tab) (n := 20) (e := 89) g_tab rfl (by kernel_rfl) (by kernel_rfl) (by kernel_rfl) (by kernel_rfl) hL.tail.tail
end Go.Proofs.YthkffcnifhcjoaaDoor
