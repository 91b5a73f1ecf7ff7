/- ltkref.Texts returns true of two slices that read as the same strings. -/
import Derived.Test.YthkffcnifhcjoaaDoorLawLines
set_option linter.unusedSimpArgs false
set_option linter.unusedVariables false
namespace Go.Proofs.YthkffcnifhcjoaaDoor
open Go.RowKit Go.Sort

set_option maxHeartbeats 2000000 in
set_option maxRecDepth 100000 in
theorem Texts_same (ss : List ByteArray) (n : Nat) (hn : ss.length = n) (h63 : n ≤ 100000) (A B : Option Addr) (c d : Nat) (w : World) (hA : Reads w w.heap.size 1 A n (ss.map Value.string)) (hB : Reads w w.heap.size 1 B n (ss.map Value.string)) :
    Calls Tryd.prog 19 #[.slice A n c, .slice B n d] w fun e w' => e = .returned (.bool true) ∧ Below w.heap.size w w' := by
  have HA := Lib.hid hA
  have HB := Lib.hid hB
  clear hA hB
  go_enter Tryd.func19, Tryd.ntmps19
  go_wp2
  go_loopg [5] n (fun gg s5 wr => ∃ j : Nat, j ≤ n ∧ n - j ≤ gg ∧ s5 = .int .i64 j ∧ Aside (Below w.heap.size w wr))
  case atStart => exact ⟨0, by omega, by omega, rfl, Below.refl _ _⟩
  case round =>
    obtain ⟨j, hj, hg, rfl, HW⟩ := hrel
    by_cases hlt : j < n
    · have e4 : (j : Int) < (n : Int) := by omega
      have hu : (ss.map Value.string)[j]? = some (.string (ss[j]'(by omega))) := by
        rw [List.getElem?_map, List.getElem?_eq_getElem (by omega)]
        rfl
      generalize ss[j]'(by omega) = s at hu
      obtain ⟨b1, o1, u1, rfl, hb1, hu1, hc1⟩ := (HA.out.below HW.out).get_ hlt
      obtain ⟨b2, o2, u2, rfl, hb2, hu2, hc2⟩ := (HB.out.below HW.out).get_ hlt
      rw [hu] at hu1 hu2
      injection hu1 with hu1
      injection hu2 with hu2
      subst hu1 hu2
      clear hu
      go_upto_region 6 with (fail)
      go_quiet (fail)
      go_wp2
      go_roundg (n - (j + 1))
      case measure => omega
      case rel =>
        refine ⟨j + 1, by omega, by omega, by go_num, ?_⟩
        show Below _ _ _
        exact below_drewN HW.out _
    · have hjn : j = n := by omega
      subst hjn
      go_wp2
      go_ret
      exact ⟨rfl, HW.out⟩
end Go.Proofs.YthkffcnifhcjoaaDoor
