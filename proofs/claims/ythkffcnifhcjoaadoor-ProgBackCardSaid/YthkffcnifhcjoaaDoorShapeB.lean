/- The bounds that shape.Check lays on a configuration, and what shape.counts computes. -/
import Derived.Test.YthkffcnifhcjoaaDoorShape
set_option linter.unusedSimpArgs false
set_option linter.unusedVariables false
namespace Go.Proofs.YthkffcnifhcjoaaDoor
open Go.RowKit

theorem Cf.ok_bounds {c : Cf} (h : c.ok = true) : (1 ≤ c.rg ∧ c.rg ≤ 8) ∧ (1 ≤ c.ob ∧ c.ob ≤ 8) ∧ (1 ≤ c.st ∧ c.st ≤ 8) ∧ (1 ≤ c.wd ∧ c.wd ≤ 8) ∧ (1 ≤ c.th ∧ c.th ≤ 64) ∧ (0 ≤ c.sl ∧ c.sl ≤ 48) ∧ (1 ≤ c.rs ∧ c.rs ≤ 8) ∧
    (1 ≤ c.lk ∧ c.lk ≤ 4096) ∧ (1 ≤ c.un ∧ c.un ≤ 1000) ∧ (0 ≤ c.es ∧ c.es ≤ 64) ∧ (1 ≤ c.tk ∧ c.tk ≤ 10000) ∧ (0 ≤ c.po ∧ c.po ≤ 2) := by
  unfold Cf.ok Cf.rows at h
  simpa [rowOk] using h

def Cf.nR (c : Cf) : Int := if c.ok then c.rg else 0
def Cf.nO (c : Cf) : Int := if c.ok then c.rg * c.ob else 0
def Cf.nS (c : Cf) : Int := if c.ok then c.rg * c.ob * c.st else 0
def Cf.words (c : Cf) : Int := c.nS * c.wd

theorem mul_bd {a b A B : Int} (ha : 0 ≤ a) (hA : a ≤ A) (hb : 0 ≤ b) (hB : b ≤ B) : 0 ≤ a * b ∧ a * b ≤ A * B :=
  ⟨Int.mul_nonneg ha hb, Int.mul_le_mul hA hB hb (Int.le_trans ha hA)⟩

set_option maxHeartbeats 1000000 in
theorem counts_any (c : Cf) (w : World) :
    Calls Tryd.prog 22 #[c.v] w fun e w' => e = .returned (.tuple #[.int .i64 c.nR, .int .i64 c.nO, .int .i64 c.nS]) ∧ Below w.heap.size w w' := by
  have hbd := @Cf.ok_bounds c
  have h1 : c.chk = if c.ok then 0 else 1 := rfl
  have h2 : c.nR = if c.ok then c.rg else 0 := rfl
  have h3 : c.nO = if c.ok then c.rg * c.ob else 0 := rfl
  have h4 : c.nS = if c.ok then c.rg * c.ob * c.st else 0 := rfl
  have HC := fun w => Check_any c w
  generalize c.ok = ok at hbd h1 h2 h3 h4
  generalize c.chk = chk at h1 HC
  generalize c.nR = nR at h2 ⊢
  generalize c.nO = nO at h3 ⊢
  generalize c.nS = nS at h4 ⊢
  obtain ⟨c0, c1, c2, c3, c4, c5, c6, c7, c8, c9, c10, c11⟩ := c
  unfold Cf.v at *
  dsimp only at *
  have HH := Lib.hid HC
  clear HC
  cases ok with
  | false =>
    simp only [Bool.false_eq_true, if_false] at h1 h2 h3 h4
    subst h1 h2 h3 h4
    clear hbd
    go_enter Tryd.func22, Tryd.ntmps22
    go_wp2_with (go_at_call 20; refine (HH.out _).mono ?_; rintro e w1 ⟨rfl, hb⟩)
    go_ret3
    exact ⟨rfl, below_one hb⟩
  | true =>
    simp only [if_true] at h1 h2 h3 h4
    have hb1 := hbd rfl
    obtain ⟨⟨a1, a2⟩, ⟨b1, b2⟩, ⟨d1, d2⟩, _⟩ := hb1
    have m1 := mul_bd (show (0 : Int) ≤ c0 by omega) a2 (show (0 : Int) ≤ c1 by omega) b2
    have m2 := mul_bd m1.1 m1.2 (show (0 : Int) ≤ c2 by omega) d2
    obtain ⟨m3, m4⟩ := m1
    obtain ⟨m5, m6⟩ := m2
    subst h1 h2 h3 h4
    clear hbd
    go_enter Tryd.func22, Tryd.ntmps22
    go_wp2_with (go_at_call 20; refine (HH.out _).mono ?_; rintro e w1 ⟨rfl, hb⟩; obtain ⟨hc, hf⟩ := bcell hb)
    go_quiet (fail)
    go_wp2
    go_ret3
    exact ⟨rfl, below_drewN (below_one hb) _⟩
end Go.Proofs.YthkffcnifhcjoaaDoor
