/- What a program that passes prog.Check holds: in plain Lean. -/
import Derived.Test.YthkffcnifhcjoaaDoorTexts
set_option linter.unusedSimpArgs false
set_option linter.unusedVariables false
namespace Go.Proofs.YthkffcnifhcjoaaDoor
open Go.RowKit Go.Sort

theorem chk_inv {c : Cf} {xs : List In} (h : chkP c xs = 0) : c.ok = true ∧ xs.length ≤ 60 ∧ ∀ (j : Nat) (x : In), xs[j]? = some x → mayB c x j xs.length = true := by
  unfold chkP at h
  split at h
  · rename_i hb
    unfold chkB at hb
    rw [Bool.and_eq_true, Bool.and_eq_true] at hb
    obtain ⟨⟨h1, h2⟩, h3⟩ := hb
    refine ⟨h1, of_decide_eq_true h2, fun j x hx => ?_⟩
    obtain ⟨hj, _⟩ := List.getElem?_eq_some_iff.1 hx
    have := (List.all_eq_true.1 h3) j (List.mem_range.2 hj)
    simpa [List.getD, hx] using this
  · cases h
theorem may_kind {c : Cf} {x : In} {i n : Int} (h : mayB c x i n = true) : Kind x.k := by
  unfold mayB at h
  split at h
  · cases h
  · rename_i hw
    unfold wordB at hw
    unfold Kind
    by_cases h1 : x.k = 1
    · omega
    by_cases h2 : x.k = 2
    · omega
    by_cases h3 : x.k = 3
    · omega
    by_cases h4 : x.k = 4
    · omega
    by_cases h5 : x.k = 5
    · omega
    by_cases h6 : x.k = 6
    · omega
    by_cases h7 : x.k = 7
    · omega
    rw [if_neg h1, if_neg h2, if_neg h3, if_neg h4, if_neg h5, if_neg h6, if_neg h7] at hw
    exact absurd rfl hw
theorem may_jump_inv {c : Cf} {x : In} {i n : Int} (h : mayB c x i n = true) (hk : x.k = 5) : i < x.b ∧ x.b ≤ n := by
  obtain ⟨k, a, b, cc, l⟩ := x
  simp only at hk
  subst hk
  unfold mayB at h
  simp [wordB, wordN, wordL] at h
  exact h.2.2
theorem may_calc_inv {c : Cf} {x : In} {i n : Int} (h : mayB c x i n = true) (hk : x.k = 4) : knownK x.b = true := by
  obtain ⟨k, a, b, cc, l⟩ := x
  simp only at hk
  subst hk
  unfold mayB at h
  simp [wordB, wordN, wordL] at h
  exact h.2.1.1.1
theorem may_nil {c : Cf} {x : In} {i n : Int} (h : mayB c x i n = true) (hk : wordL x.k = false) : x.l = [] := by
  unfold mayB at h
  by_cases hl : x.l = []
  · exact hl
  · exfalso
    split at h
    · cases h
    · split at h
      · cases h
      · rw [if_pos ⟨hk, hl⟩] at h
        cases h
theorem may_canon {c : Cf} {x : In} {i n : Int} (h : mayB c x i n = true) : mayB c (canon x) i n = true := by
  have hk := may_kind h
  have hn := may_nil h
  obtain ⟨k, a, b, cc, l⟩ := x
  rcases kind_cases hk with e | e | e | e | e | e | e <;> simp only at e <;> subst e
  · obtain rfl : l = [] := hn rfl
    exact h
  · obtain rfl : l = [] := hn rfl
    exact h
  · obtain rfl : l = [] := hn rfl
    exact h
  · exact h
  · obtain rfl : l = [] := hn rfl
    exact h
  · rfl
  · rfl
theorem words_pos {c : Cf} (h : c.ok = true) : 1 ≤ c.words := by
  obtain ⟨⟨a1, a2⟩, ⟨b1, b2⟩, ⟨d1, d2⟩, ⟨e1, e2⟩, _⟩ := Cf.ok_bounds h
  unfold Cf.words Cf.nS
  rw [if_pos h]
  have m1 : 1 ≤ c.rg * c.ob := by have := Int.mul_le_mul a1 b1 (by omega) (by omega); omega
  have m2 : 1 ≤ c.rg * c.ob * c.st := by have := Int.mul_le_mul m1 d1 (by omega) (by omega); omega
  have m3 := Int.mul_le_mul m2 e1 (by omega) (by omega)
  omega
end Go.Proofs.YthkffcnifhcjoaaDoor
