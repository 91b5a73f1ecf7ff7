/- prog.Addr and shape.Words compute addresses and numbers of words, whatever their arguments. -/
import Derived.Test.YthkffcnifhcjoaaDoorShapeB
import Derived.Test.YthkffcnifhcjoaaDoorMem
set_option linter.unusedSimpArgs false
set_option linter.unusedVariables false
namespace Go.Proofs.YthkffcnifhcjoaaDoor
open Go.RowKit Go.Sort

theorem Cf.nS_bounds (c : Cf) : 0 ≤ c.nS ∧ c.nS ≤ 512 := by
  unfold Cf.nS
  split
  · rename_i h
    obtain ⟨⟨a1, a2⟩, ⟨b1, b2⟩, ⟨d1, d2⟩, _⟩ := Cf.ok_bounds h
    have m1 := mul_bd (show (0 : Int) ≤ c.rg by omega) a2 (show (0 : Int) ≤ c.ob by omega) b2
    have m2 := mul_bd m1.1 m1.2 (show (0 : Int) ≤ c.st by omega) d2
    omega
  · omega
theorem Cf.words_bounds (c : Cf) : 0 ≤ c.words ∧ c.words ≤ 4096 := by
  unfold Cf.words
  by_cases h : c.ok = true
  · obtain ⟨_, _, _, ⟨e1, e2⟩, _⟩ := Cf.ok_bounds h
    have m1 := Cf.nS_bounds c
    have m2 := mul_bd m1.1 m1.2 (show (0 : Int) ≤ c.wd by omega) e2
    omega
  · have : c.nS = 0 := by unfold Cf.nS; rw [if_neg h]
    rw [this]; omega

set_option maxHeartbeats 1000000 in
theorem Words_any (c : Cf) (w : World) :
    Calls Tryd.prog 11 #[c.v] w fun e w' => e = .returned (.int .i64 c.words) ∧ Below w.heap.size w w' := by
  have hbd := Cf.words_bounds c
  have h2 : c.words = c.nS * c.wd := rfl
  have HC := fun w => counts_any c w
  have HH := Lib.hid HC
  clear HC
  generalize c.words = W at hbd h2 ⊢
  generalize c.nS = nS at h2 HH
  generalize c.nO = nO at HH
  generalize c.nR = nR at HH
  obtain ⟨c0, c1, c2, c3, c4, c5, c6, c7, c8, c9, c10, c11⟩ := c
  unfold Cf.v at *
  dsimp only at *
  obtain ⟨hb1, hb2⟩ := hbd
  rw [h2] at hb1 hb2
  have H2 := Lib.hid h2
  clear h2
  go_enter Tryd.func11, Tryd.ntmps11
  go_wp2_with (go_at_call 22; refine (HH.out _).mono ?_; rintro e w1 ⟨rfl, hb⟩; obtain ⟨hc, hf⟩ := bcell hb)
  go_ret
  exact ⟨by rw [H2.out]; rfl, below_one hb⟩

theorem wrapEq (x : Int) : IntKind.i64.wrap x = wrap64 x := by rw [IntKind.wrap_i64]; unfold wrap64; omega

/-- prog.Addr. -/
def addrZ (c : Cf) (b ci : Int) (regs : List Int) : Int :=
  if ci = -1 then wrapZ b c.words else if ci < 0 ∨ (regs.length : Int) ≤ ci then 0 else wrapZ (wrap64 (b + regs.getD ci.toNat 0)) c.words

/-- The cells of a configuration's box. -/
theorem conf_at {w : World} {g : Nat} {c0 c1 c2 c3 c4 c5 c6 c7 c8 c9 c10 c11 : Value} {t : TypeId} (h : Blk w g t #[c0, c1, c2, c3, c4, c5, c6, c7, c8, c9, c10, c11]) :
    w.cell? ⟨g, 0, none⟩ = some c0 ∧ w.cell? ⟨g, 1, none⟩ = some c1 ∧ w.cell? ⟨g, 2, none⟩ = some c2 ∧ w.cell? ⟨g, 3, none⟩ = some c3 ∧ w.cell? ⟨g, 4, none⟩ = some c4 ∧ w.cell? ⟨g, 5, none⟩ = some c5 ∧
    w.cell? ⟨g, 6, none⟩ = some c6 ∧ w.cell? ⟨g, 7, none⟩ = some c7 ∧ w.cell? ⟨g, 8, none⟩ = some c8 ∧ w.cell? ⟨g, 9, none⟩ = some c9 ∧ w.cell? ⟨g, 10, none⟩ = some c10 ∧ w.cell? ⟨g, 11, none⟩ = some c11 :=
  ⟨h.cell 0, h.cell 1, h.cell 2, h.cell 3, h.cell 4, h.cell 5, h.cell 6, h.cell 7, h.cell 8, h.cell 9, h.cell 10, h.cell 11⟩
/-- The cells of an instruction's box. -/
theorem instr_at {w : World} {g : Nat} {c0 c1 c2 c3 c4 : Value} {t : TypeId} (h : Blk w g t #[c0, c1, c2, c3, c4]) :
    w.cell? ⟨g, 0, none⟩ = some c0 ∧ w.cell? ⟨g, 1, none⟩ = some c1 ∧ w.cell? ⟨g, 2, none⟩ = some c2 ∧ w.cell? ⟨g, 3, none⟩ = some c3 ∧ w.cell? ⟨g, 4, none⟩ = some c4 :=
  ⟨h.cell 0, h.cell 1, h.cell 2, h.cell 3, h.cell 4⟩

theorem instr_fz {w : World} {g : Nat} {cs : Array Value} {t : TypeId} (h : Blk w g t cs) :
    w.frozen? ⟨g, 0, none⟩ = false ∧ w.frozen? ⟨g, 1, none⟩ = false ∧ w.frozen? ⟨g, 2, none⟩ = false ∧ w.frozen? ⟨g, 3, none⟩ = false ∧ w.frozen? ⟨g, 4, none⟩ = false :=
  ⟨h.frozen 0, h.frozen 1, h.frozen 2, h.frozen 3, h.frozen 4⟩

set_option maxHeartbeats 1000000 in
set_option maxRecDepth 100000 in
theorem Addr_minus (c : Cf) (k a b : Int) (L R : Value) (w : World) :
    Calls Tryd.prog 12 #[c.v, .agg #[.int .i64 k, .int .i64 a, .int .i64 b, .int .i64 (-1), L], R] w fun e w' => e = .returned (.int .i64 (wrapZ b c.words)) ∧ Below w.heap.size w w' := by
  have hwb := (Cf.words_bounds c).2
  have HW := fun w => Words_any c w
  have HR := fun w => Wrap_any b c.words w (by omega)
  generalize c.words = W at HW HR hwb ⊢
  have HH := Lib.hid HW
  have HHR := Lib.hid HR
  clear HW HR
  obtain ⟨c0, c1, c2, c3, c4, c5, c6, c7, c8, c9, c10, c11⟩ := c
  unfold Cf.v at *
  dsimp only at *
  go_enter Tryd.func12, Tryd.ntmps12
  go_wp2
  refine boxed2 ?_
  intro W0 hB1 hB2 hB3 hB4
  have k1 := fun d os => conf_at (hB1.regrown d os)
  have k2 := fun d os => instr_at (hB2.regrown d os)
  have HB3 := Lib.hid hB3
  have HB2 := Lib.hid hB2
  clear hB1 hB2 hB3 hB4
  refine wp_region_quiet_below (by kernel_rfl) (by kernel_rfl) ?_
  repeat (quiet_step (first | (go_at_call 11; exact quietly (fun W _ => HH.out W) _ _) | (go_at_call 13; exact quietly_same (fun W => HHR.out W) _ _)))
  refine wpQuiet_nil ?_
  intro _ hw'
  obtain ⟨⟨dq, osq⟩, hw''⟩ := hw'
  subst hw''
  go_wp2
  go_ret
  exact ⟨rfl, HB3.out.trans ((below_regrown W0 dq osq).mono HB3.out.size)⟩

set_option maxHeartbeats 1000000 in
set_option maxRecDepth 100000 in
theorem Addr_out (c : Cf) (k a b ci : Int) (L : Value) (A : Option Addr) (n cap : Nat) (w : World) (h0 : ci ≠ -1) (h1 : ci < 0 ∨ (n : Int) ≤ ci) :
    Calls Tryd.prog 12 #[c.v, .agg #[.int .i64 k, .int .i64 a, .int .i64 b, .int .i64 ci, L], .slice A n cap] w fun e w' => e = .returned (.int .i64 0) ∧ Below w.heap.size w w' := by
  obtain ⟨c0, c1, c2, c3, c4, c5, c6, c7, c8, c9, c10, c11⟩ := c
  unfold Cf.v at *
  dsimp only at *
  have h0' : (ci == -1) = false := beq_eq_false_iff_ne.2 h0
  by_cases h2 : ci < 0
  · clear h1 h0
    go_enter Tryd.func12, Tryd.ntmps12
    go_wp2
    go_ret
    exact ⟨rfl, below_two (Below.refl _ _)⟩
  · have h3 : (n : Int) ≤ ci := by omega
    clear h1 h0
    go_enter Tryd.func12, Tryd.ntmps12
    go_wp2
    go_ret
    exact ⟨rfl, below_two (Below.refl _ _)⟩

set_option maxHeartbeats 1000000 in
set_option maxRecDepth 100000 in
theorem Addr_reg (c : Cf) (k a b ci v : Int) (L : Value) (rb ro n cap : Nat) (w : World) (h0 : 0 ≤ ci) (h1 : ci < (n : Int)) (hcell : w.cell? ⟨rb, ro + ci.toNat, none⟩ = some (.int .i64 v)) :
    Calls Tryd.prog 12 #[c.v, .agg #[.int .i64 k, .int .i64 a, .int .i64 b, .int .i64 ci, L], .slice (some ⟨rb, ro, none⟩) n cap] w fun e w' => e = .returned (.int .i64 (wrapZ (wrap64 (b + v)) c.words)) ∧ Below w.heap.size w w' := by
  have hwb := (Cf.words_bounds c).2
  have HW := fun w => Words_any c w
  have HR := fun w => Wrap_any (IntKind.i64.wrap (b + v)) c.words w (by omega)
  rw [← show IntKind.i64.wrap (b + v) = wrap64 (b + v) from wrapEq _]
  generalize c.words = W at HW HR hwb ⊢
  have HH := Lib.hid HW
  have HHR := Lib.hid HR
  clear HW HR
  have h0' : (ci == -1) = false := beq_eq_false_iff_ne.2 (by omega)
  have hrb := block_lt_of_cell hcell
  obtain ⟨c0, c1, c2, c3, c4, c5, c6, c7, c8, c9, c10, c11⟩ := c
  unfold Cf.v at *
  dsimp only at *
  have HX := Lib.hid hcell
  clear hcell
  go_enter Tryd.func12, Tryd.ntmps12
  go_wp2
  refine boxed2 ?_
  intro W0 hB1 hB2 hB3 hB4
  have k1 := fun d os => conf_at (hB1.regrown d os)
  have k2 := fun d os => instr_at (hB2.regrown d os)
  have k3 := fun d os => cell_regrown ((hB3.cell (p := ⟨rb, ro + ci.toNat, none⟩) hrb).trans HX.out) d os
  have HB3 := Lib.hid hB3
  clear hB1 hB2 hB3 hB4
  refine wp_region_quiet_below (by kernel_rfl) (by kernel_rfl) ?_
  repeat (quiet_step (first | (go_at_call 11; exact quietly (fun W _ => HH.out W) _ _) | (go_at_call 13; exact quietly_same (fun W => HHR.out W) _ _)))
  refine wpQuiet_nil ?_
  intro _ hw'
  obtain ⟨⟨dq, osq⟩, hw''⟩ := hw'
  subst hw''
  go_wp2
  go_ret
  exact ⟨rfl, HB3.out.trans ((below_regrown W0 dq osq).mono HB3.out.size)⟩
end Go.Proofs.YthkffcnifhcjoaaDoor
