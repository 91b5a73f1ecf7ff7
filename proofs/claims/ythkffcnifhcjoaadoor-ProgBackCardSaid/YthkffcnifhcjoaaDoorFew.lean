/- ltklaw6.Few computes fewB of any program. -/
import Derived.Test.YthkffcnifhcjoaaDoorIns
import Derived.Test.YthkffcnifhcjoaaDoorPrint
set_option linter.unusedSimpArgs false
set_option linter.unusedVariables false
namespace Go.Proofs.YthkffcnifhcjoaaDoor
open Go.RowKit Go.Sort

def fewB (xs : List In) : Bool := decide (xs.length ≤ 200) && (List.range (min xs.length 200)).all fun i => decide ((xs.getD i ⟨0, 0, 0, 0, []⟩).l.length ≤ 100)
theorem fewB_yes {xs : List In} (h : ∀ j, j < xs.length → j < 200 → ∀ x, xs[j]? = some x → x.l.length ≤ 100) : fewB xs = decide (xs.length ≤ 200) := by
  unfold fewB
  have : ((List.range (min xs.length 200)).all fun i => decide ((xs.getD i ⟨0, 0, 0, 0, []⟩).l.length ≤ 100)) = true := by
    rw [List.all_eq_true]
    intro i hi
    have hi := List.mem_range.1 hi
    have h1 : i < xs.length := by omega
    have := h i h1 (by omega) _ (List.getElem?_eq_getElem h1)
    simpa [List.getD, List.getElem?_eq_getElem h1] using this
  rw [this, Bool.and_true]
theorem fewB_no {xs : List In} (j : Nat) (x : In) (hx : xs[j]? = some x) (hj : j < 200) (h : 100 < x.l.length) : fewB xs = false := by
  unfold fewB
  rw [Bool.and_eq_false_iff]
  right
  rw [List.all_eq_false]
  exact ⟨j, List.mem_range.2 (by have := (List.getElem?_eq_some_iff.1 hx).1; omega), by simp [List.getD, hx]; omega⟩
theorem fewB_bounds {xs : List In} (h : fewB xs = true) : xs.length ≤ 200 ∧ ∀ x ∈ xs, x.l.length ≤ 100 := by
  unfold fewB at h
  rw [Bool.and_eq_true] at h
  have h1 := of_decide_eq_true h.1
  refine ⟨h1, fun x hx => ?_⟩
  obtain ⟨j, hj, e⟩ := List.getElem_of_mem hx
  have := (List.all_eq_true.1 h.2) j (List.mem_range.2 (by omega))
  rw [show xs.getD j ⟨0, 0, 0, 0, []⟩ = x by simp [List.getD, List.getElem?_eq_getElem hj, e]] at this
  exact of_decide_eq_true this

set_option maxHeartbeats 2000000 in
set_option maxRecDepth 100000 in
theorem Few_any (xs : List In) (A : Option Addr) (cap : Nat) (w : World) (hI : InsAt w w.heap.size A xs) (hn : xs.length ≤ 9223372036854775807) :
    Calls Tryd.prog 14 #[.slice A xs.length cap] w fun e w' => e = .returned (.bool (fewB xs)) ∧ w = w' := by
  have HY := Lib.hid (@fewB_yes xs)
  have HN := Lib.hid (fun j x => @fewB_no xs j x)
  have HI := Lib.hid hI
  generalize fewB xs = res at HY HN ⊢
  clear hI
  go_enter Tryd.func14, Tryd.ntmps14
  go_wp2
  go_loopg [3] 200 (fun gg s3 wr => ∃ k : Nat, k ≤ xs.length ∧ k ≤ 200 ∧ 200 - k ≤ gg ∧ s3 = .int .i64 k ∧ wr = w ∧ Aside (∀ j, j < k → ∀ x, xs[j]? = some x → x.l.length ≤ 100))
  case atStart => exact ⟨0, by omega, by omega, by omega, rfl, rfl, fun j hj => absurd hj (Nat.not_lt_zero _)⟩
  case round =>
    obtain ⟨k, hk, hk2, hg, rfl, rfl, AL⟩ := hrel
    by_cases hlt : k < xs.length
    · have hltz : (k : Int) < (xs.length : Int) := by omega
      by_cases h200 : k < 200
      · have h200z : (k : Int) < 200 := by omega
        have hx : xs[k]? = some xs[k] := List.getElem?_eq_getElem hlt
        generalize xs[k] = x at hx
        obtain ⟨b, o, A', c', hA, hb, hrd, e0, e1, e2, e3, e4⟩ := HI.out.get hx
        subst hA
        have HX := Lib.hid hx
        clear hx hrd
        by_cases h100 : x.l.length ≤ 100
        · have hz : ¬ (100 : Int) < (x.l.length : Int) := by omega
          go_wp2
          go_roundg (200 - (k + 1))
          case measure => omega
          case rel =>
            refine ⟨k + 1, by omega, by omega, by omega, by go_num, rfl, (show Aside _ from ?_)⟩
            intro j hj y hy
            by_cases e : j = k
            · subst e
              have e1 := HX.out.symm.trans hy
              injection e1 with e1
              subst e1
              exact h100
            · exact AL.out j (by omega) y hy
        · have hr := HN.out k x HX.out h200 (by omega)
          subst hr
          have hz : (100 : Int) < (x.l.length : Int) := by omega
          go_wp2
          go_ret
          exact ⟨rfl, rfl⟩
      · have hk3 : k = 200 := by omega
        subst hk3
        have hr := HY.out (fun j _ h2 x hx => AL.out j h2 x hx)
        subst hr
        have hz : ¬ (xs.length : Int) ≤ 200 := by omega
        have hz2 : decide (xs.length ≤ 200) = false := by simp; omega
        go_wp2
        go_ret
        refine ⟨?_, rfl⟩
        simp
    · have hke : k = xs.length := by omega
      subst hke
      have hr := HY.out (fun j h1 _ x hx => AL.out j h1 x hx)
      subst hr
      have hz : (xs.length : Int) ≤ 200 := by omega
      go_wp2
      go_ret
      refine ⟨?_, rfl⟩
      simp

/-- ltkref.Texts. -/
def textsB (a b : List (List UInt8)) : Bool := a == b
end Go.Proofs.YthkffcnifhcjoaaDoor
