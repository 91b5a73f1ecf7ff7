/- prog.may computes mayB of any instruction whose list holds at most 1000 numbers. -/
import Derived.Test.YthkffcnifhcjoaaDoorMay
set_option linter.unusedSimpArgs false
set_option linter.unusedVariables false
namespace Go.Proofs.YthkffcnifhcjoaaDoor
open Go.RowKit Go.Sort

set_option maxHeartbeats 1000000 in
theorem may_any (c : Cf) (x : In) (A : Option Addr) (cap : Nat) (at_ many : Int) (w : World) (hL : Reads w w.heap.size 1 A x.l.length (x.l.map (Value.int .i64))) (hlen : x.l.length ≤ 1000) :
    Calls Tryd.prog 21 #[c.v, x.v (.slice A x.l.length cap), .int .i64 at_, .int .i64 many] w fun e w' => e = .returned (.bool (mayB c x at_ many)) ∧ Below w.heap.size w w' := by
  obtain ⟨k, a, b, ci, l⟩ := x
  unfold In.v
  dsimp only at *
  by_cases e0 : wordB k = []
  · have hr : mayB c ⟨k, a, b, ci, l⟩ at_ many = false := by unfold mayB; rw [if_pos e0]
    rw [hr]
    exact may_odd c k a b ci _ at_ many w e0
  · have hk := kinds_of e0
    have hneg : ∀ {p : Prop}, ¬ p → (p ↔ False) := fun h => ⟨h, False.elim⟩
    cases hna : noneB c a with
    | true =>
      rcases hk with rfl | rfl | rfl | rfl | rfl | rfl | rfl
      · rw [show mayB c ⟨1, a, b, ci, l⟩ at_ many = false by unfold mayB; simp [wordB, wordN, hna]]; exact may1_a c a b ci A l cap at_ many w hL hlen hna
      · rw [show mayB c ⟨2, a, b, ci, l⟩ at_ many = false by unfold mayB; simp [wordB, wordN, hna]]; exact may2_a c a b ci A l cap at_ many w hL hlen hna
      · rw [show mayB c ⟨3, a, b, ci, l⟩ at_ many = false by unfold mayB; simp [wordB, wordN, hna]]; exact may3_a c a b ci A l cap at_ many w hL hlen hna
      · rw [show mayB c ⟨4, a, b, ci, l⟩ at_ many = false by unfold mayB; simp [wordB, wordN, hna]]; exact may4_a c a b ci A l cap at_ many w hL hlen hna
      · rw [show mayB c ⟨5, a, b, ci, l⟩ at_ many = false by unfold mayB; simp [wordB, wordN, hna]]; exact may5_a c a b ci A l cap at_ many w hL hlen hna
      · by_cases h0 : l = []
        · subst h0
          rw [show mayB c ⟨6, a, b, ci, []⟩ at_ many = true by unfold mayB; simp [wordB, wordN, wordL]]; exact may6_y c a b ci A [] cap at_ many w hL hlen rfl
        · rw [show mayB c ⟨6, a, b, ci, l⟩ at_ many = false by unfold mayB; simp [wordB, wordN, wordL, h0]]; exact may6_l c a b ci A l cap at_ many w hL hlen (List.length_pos_iff.2 h0)
      · by_cases h0 : l = []
        · subst h0
          rw [show mayB c ⟨7, a, b, ci, []⟩ at_ many = true by unfold mayB; simp [wordB, wordN, wordL]]; exact may7_y c a b ci A [] cap at_ many w hL hlen rfl
        · rw [show mayB c ⟨7, a, b, ci, l⟩ at_ many = false by unfold mayB; simp [wordB, wordN, wordL, h0]]; exact may7_l c a b ci A l cap at_ many w hL hlen (List.length_pos_iff.2 h0)
    | false =>
      by_cases h0 : l = []
      · subst h0
        rcases hk with rfl | rfl | rfl | rfl | rfl | rfl | rfl
        · by_cases hc : ci = -1
          · rw [show mayB c ⟨1, a, b, ci, []⟩ at_ many = true by unfold mayB; simp [wordB, wordN, wordL, hna, hc]]; exact may1_m c a b ci A [] cap at_ many w hL hlen hna rfl hc
          · rw [show mayB c ⟨1, a, b, ci, []⟩ at_ many = !noneB c ci by unfold mayB; simp [wordB, wordN, wordL, hna, hc]]; exact may1_c c a b ci A [] cap at_ many w hL hlen hna rfl (beq_eq_false_iff_ne.2 hc)
        · by_cases hc : ci = -1
          · rw [show mayB c ⟨2, a, b, ci, []⟩ at_ many = true by unfold mayB; simp [wordB, wordN, wordL, hna, hc]]; exact may2_m c a b ci A [] cap at_ many w hL hlen hna rfl hc
          · rw [show mayB c ⟨2, a, b, ci, []⟩ at_ many = !noneB c ci by unfold mayB; simp [wordB, wordN, wordL, hna, hc]]; exact may2_c c a b ci A [] cap at_ many w hL hlen hna rfl (beq_eq_false_iff_ne.2 hc)
        · rw [show mayB c ⟨3, a, b, ci, []⟩ at_ many = true by unfold mayB; simp [wordB, wordN, wordL, hna]]; exact may3_y c a b ci A [] cap at_ many w hL hlen hna rfl
        · rw [show mayB c ⟨4, a, b, ci, []⟩ at_ many = false by unfold mayB; simp [wordB, wordN, wordL, hna]]
          cases hk : knownK b with
          | false => exact may4_b c a b ci A [] cap at_ many w hL hlen hna hk
          | true => exact may4_0 c a b ci A [] cap at_ many w hL hlen hna hk rfl
        · by_cases hb : at_ < b
          · rw [show mayB c ⟨5, a, b, ci, []⟩ at_ many = decide (b ≤ many) by unfold mayB; simp [wordB, wordN, wordL, hna, hb]]; exact may5_y c a b ci A [] cap at_ many w hL hlen hna rfl hb
          · rw [show mayB c ⟨5, a, b, ci, []⟩ at_ many = false by unfold mayB; simp [wordB, wordN, wordL, hna, hb]]; exact may5_n c a b ci A [] cap at_ many w hL hlen hna rfl hb
        · rw [show mayB c ⟨6, a, b, ci, []⟩ at_ many = true by unfold mayB; simp [wordB, wordN, wordL]]; exact may6_y c a b ci A [] cap at_ many w hL hlen rfl
        · rw [show mayB c ⟨7, a, b, ci, []⟩ at_ many = true by unfold mayB; simp [wordB, wordN, wordL]]; exact may7_y c a b ci A [] cap at_ many w hL hlen rfl
      · have hp := List.length_pos_iff.2 h0
        rcases hk with rfl | rfl | rfl | rfl | rfl | rfl | rfl
        · rw [show mayB c ⟨1, a, b, ci, l⟩ at_ many = false by unfold mayB; simp [wordB, wordN, wordL, hna, h0]]; exact may1_l c a b ci A l cap at_ many w hL hlen hna hp
        · rw [show mayB c ⟨2, a, b, ci, l⟩ at_ many = false by unfold mayB; simp [wordB, wordN, wordL, hna, h0]]; exact may2_l c a b ci A l cap at_ many w hL hlen hna hp
        · rw [show mayB c ⟨3, a, b, ci, l⟩ at_ many = false by unfold mayB; simp [wordB, wordN, wordL, hna, h0]]; exact may3_l c a b ci A l cap at_ many w hL hlen hna hp
        · cases hk : knownK b with
          | false => rw [show mayB c ⟨4, a, b, ci, l⟩ at_ many = false by unfold mayB; simp [wordB, wordN, wordL, hna, hk]]; exact may4_b c a b ci A l cap at_ many w hL hlen hna hk
          | true =>
            by_cases h8 : l.length ≤ 8
            · rw [show mayB c ⟨4, a, b, ci, l⟩ at_ many = !l.any (noneB c) by unfold mayB; simp [wordB, wordN, wordL, hna, hk, h8, hp]]; exact may4_y c a b ci A l cap at_ many w hL hlen hna hk hp h8
            · rw [show mayB c ⟨4, a, b, ci, l⟩ at_ many = false by unfold mayB; simp [wordB, wordN, wordL, hna, hk, h8]]; exact may4_8 c a b ci A l cap at_ many w hL hlen hna hk (by omega)
        · rw [show mayB c ⟨5, a, b, ci, l⟩ at_ many = false by unfold mayB; simp [wordB, wordN, wordL, hna, h0]]; exact may5_l c a b ci A l cap at_ many w hL hlen hna hp
        · rw [show mayB c ⟨6, a, b, ci, l⟩ at_ many = false by unfold mayB; simp [wordB, wordN, wordL, h0]]; exact may6_l c a b ci A l cap at_ many w hL hlen hp
        · rw [show mayB c ⟨7, a, b, ci, l⟩ at_ many = false by unfold mayB; simp [wordB, wordN, wordL, h0]]; exact may7_l c a b ci A l cap at_ many w hL hlen hp
end Go.Proofs.YthkffcnifhcjoaaDoor
