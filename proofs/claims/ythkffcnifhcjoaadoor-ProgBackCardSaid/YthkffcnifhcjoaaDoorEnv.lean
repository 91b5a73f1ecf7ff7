/- What the library asks of the package-level variables holds behind whatever makes memory alone; strconv.Itoa writes any int. -/
import Derived.Test.YthkffcnifhcjoaaDoorMem
import Derived.Test.YthkffcnifhcjoaaDoorShelf
set_option linter.unusedSimpArgs false
set_option linter.unusedVariables false
namespace Go.Proofs.YthkffcnifhcjoaaDoor
open Go.RowKit Go.Sort

/-- What the library's functions ask of the package-level variables. -/
structure Env (w : World) : Prop where
  sh : w.ShapedOpen Tryd.prog
  lo : Tryd.prog.low ≤ w.heap.size
  tab : Lib.TabIs Tryd.prog w "internal/strconv.uint64pow10" .u64 Lib.pow10Tab
  es : ∃ tp p, w.var? Tryd.prog "strconv.ErrSyntax" = some #[.iface tp p]
  er : ∃ tp p, w.var? Tryd.prog "strconv.ErrRange" = some #[.iface tp p]

theorem low_ge : 2 < Tryd.prog.low ∧ 0 < Tryd.prog.low ∧ 1 < Tryd.prog.low := by
  refine ⟨?_, ?_, ?_⟩ <;> exact of_decide_eq_true (by kernel_rfl)
theorem g_tab : Tryd.prog.globalNamed "internal/strconv.uint64pow10" = some 2 := by kernel_rfl
theorem g_es : Tryd.prog.globalNamed "strconv.ErrSyntax" = some 0 := by kernel_rfl
theorem g_er : Tryd.prog.globalNamed "strconv.ErrRange" = some 1 := by kernel_rfl

theorem Env.below {w w' : World} (h : Env w) (hb : Below w.heap.size w w') : Env w' := by
  obtain ⟨l1, l2, l3⟩ := low_ge
  have hl := h.lo
  refine ⟨h.sh.keptBut (hb.frame (fun _ => False)) (fun _ h => h.elim), Nat.le_trans h.lo hb.size, var?_below hb g_tab (by omega) h.tab, ?_, ?_⟩
  · obtain ⟨tp, p, e⟩ := h.es
    exact ⟨tp, p, var?_below hb g_es (by omega) e⟩
  · obtain ⟨tp, p, e⟩ := h.er
    exact ⟨tp, p, var?_below hb g_er (by omega) e⟩

/-- An int. -/
def I64 (n : Int) : Prop := -9223372036854775808 ≤ n ∧ n ≤ 9223372036854775807

theorem Itoa_any (n : Int) (hn : I64 n) (w : World) (h : Env w) :
    Calls Tryd.prog 31 #[.int .i64 n] w fun e w' => e = .returned (.string ⟨(Lib.itoa n).toArray⟩) ∧ Below w.heap.size w w' :=
  (Tryd.strconv_Itoa n hn.1 hn.2 w h.tab).mono fun e w' ⟨he, k, os, hw⟩ => ⟨he, by
    subst hw
    exact below_regrown w (w.drawn + k) os⟩
end Go.Proofs.YthkffcnifhcjoaaDoor
