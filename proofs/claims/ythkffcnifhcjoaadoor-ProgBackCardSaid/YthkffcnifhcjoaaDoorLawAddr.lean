/- ltklaw6.ProgAddr returns true, whatever its arguments. -/
import Derived.Test.YthkffcnifhcjoaaDoorFirst
set_option linter.unusedSimpArgs false
set_option linter.unusedVariables false
namespace Go.Proofs.YthkffcnifhcjoaaDoor
open Go.RowKit Go.Sort

theorem wrapZ_bd (n m : Int) (h : 1 ≤ m) : 0 ≤ wrapZ n m ∧ wrapZ n m < m := by
  unfold wrapZ
  rw [if_neg (by omega)]
  exact ⟨Int.emod_nonneg _ (by omega), Int.emod_lt_of_pos _ (by omega)⟩

set_option maxHeartbeats 4000000 in
set_option maxRecDepth 100000 in
theorem progAddr_skip (c : Cf) (b r : Int) (A : Option Addr) (n cap : Nat) (w : World) (hE : Env w) (hs : c.words = 0 ∨ 100 < (n : Int) ∨ r < 0 ∨ (n : Int) ≤ r) :
    Calls Tryd.prog 4 #[c.v, .int .i64 b, .slice A n cap, .int .i64 r] w fun e w' => e = .returned (.bool true) ∧ Below w.heap.size w w' := by
  have HW := Lib.hid (fun w => Words_any c w)
  have HE := Lib.hid hE
  have HF := Lib.hid first_any
  clear hE
  generalize c.words = wds at HW hs
  obtain ⟨c0, c1, c2, c3, c4, c5, c6, c7, c8, c9, c10, c11⟩ := c
  unfold Cf.v at *
  dsimp only at *
  have hs' : (wds == 0) = true ∨ ((wds == 0) = false ∧ ((100 < (n : Int)) ∨ ((n : Int) ≤ 100 ∧ (r < 0 ∨ (0 ≤ r ∧ (n : Int) ≤ r))))) := by
    rw [beq_iff_eq, beq_eq_false_iff_ne]
    omega
  clear hs
  rcases hs' with h1 | ⟨h1, h2 | ⟨h2, h3 | ⟨h3, h4⟩⟩⟩
  all_goals
    go_enter Tryd.func4, Tryd.ntmps4
    go_upto_region 1 with (fail)
    refine boxed1 ?_
    intro W0 hB1 hB2 hB3
    have HBK := Lib.hid hB1
    have HB0 := Lib.hid hB2
    clear hB1 hB2
    go_upto_region 3 with (go_at_call 8; refine (HF.out W0 (HE.out.below HB0.out)).mono ?_; rintro e w1 ⟨rfl, hb⟩; have H1 := Lib.hid hb; have hk := conf_at (HBK.out.below hb HBK.out.lt); clear hb)
    go_upto_region 5 with (go_at_call 11; refine (HW.out _).mono ?_; rintro e w2 ⟨rfl, hb⟩; have H2 := Lib.hid hb; clear hb)
    have hb2 := HB0.out.trans (H1.out.mono HB0.out.size)
    have HB2 := Lib.hid (hb2.trans (H2.out.mono hb2.size))
    clear hb2
    go_wp2_with (go_at_call 8; refine (HF.out _ (HE.out.below HB2.out)).mono ?_; rintro e w3 ⟨rfl, hb⟩; have H3 := Lib.hid hb; clear hb)
    go_ret
    exact ⟨rfl, HB2.out.trans (H3.out.mono HB2.out.size)⟩

set_option maxHeartbeats 4000000 in
set_option maxRecDepth 100000 in
theorem progAddr_main (c : Cf) (b r v : Int) (rb ro n cap : Nat) (w : World) (hE : Env w) (h0 : c.words ≠ 0) (hn : (n : Int) ≤ 100) (hr : 0 ≤ r) (hrn : r < (n : Int)) (hcell : w.cell? ⟨rb, ro + r.toNat, none⟩ = some (.int .i64 v)) :
    Calls Tryd.prog 4 #[c.v, .int .i64 b, .slice (some ⟨rb, ro, none⟩) n cap, .int .i64 r] w fun e w' => e = .returned (.bool true) ∧ Below w.heap.size w w' := by
  have hbd := Cf.words_bounds c
  have hrb := block_lt_of_cell hcell
  have HW := Lib.hid (fun w => Words_any c w)
  have HE := Lib.hid hE
  have HF := Lib.hid first_any
  have HX := Lib.hid hcell
  have HA1 := Lib.hid (fun (k a : Int) (L R : Value) (w : World) => Addr_minus c k a b L R w)
  have HA2 := Lib.hid (fun (k a : Int) (L : Value) (w : World) hc => Addr_reg c k a b r v L rb ro n cap w hr hrn hc)
  have HA3 := Lib.hid (fun (k a : Int) (L : Value) (w : World) => Addr_out c k a b (n : Int) L (some ⟨rb, ro, none⟩) n cap w (by omega) (by omega))
  have hp := wrapZ_bd b c.words (by omega)
  have hq := wrapZ_bd (wrap64 (b + v)) c.words (by omega)
  have HW1 := Lib.hid (fun w => Wrap_any b c.words w (by omega))
  have HW2 := Lib.hid (fun w => Wrap_any (wrap64 (b + v)) c.words w (by omega))
  generalize wrapZ b c.words = p at HA1 hp HW1
  generalize wrapZ (wrap64 (b + v)) c.words = q at HA2 hq HW2
  generalize c.words = wds at HW h0 hp hq hbd HW1 HW2
  have h1 : (wds == 0) = false := by rw [beq_eq_false_iff_ne]; exact h0
  clear hE hcell
  obtain ⟨c0, c1, c2, c3, c4, c5, c6, c7, c8, c9, c10, c11⟩ := c
  unfold Cf.v at *
  dsimp only at *
  go_enter Tryd.func4, Tryd.ntmps4
  go_upto_region 1 with (fail)
  refine boxed1 ?_
  intro W0 hB1 hB2 hB3
  have HBK := Lib.hid hB1
  have HB0 := Lib.hid hB2
  clear hB1 hB2
  go_upto_region 3 with (go_at_call 8; refine (HF.out W0 (HE.out.below HB0.out)).mono ?_; rintro e w1 ⟨rfl, hb⟩; have H1 := Lib.hid hb; have HBK1 := Lib.hid (HBK.out.below hb HBK.out.lt); have hk := conf_at HBK1.out; clear hb)
  go_upto_region 5 with (go_at_call 11; refine (HW.out _).mono ?_; rintro e w2 ⟨rfl, hb⟩; have H2 := Lib.hid hb; clear hb)
  have hb2 := HB0.out.trans (H1.out.mono HB0.out.size)
  have HB2 := Lib.hid (hb2.trans (H2.out.mono hb2.size))
  have HBK2 := Lib.hid (HBK1.out.below H2.out HBK1.out.lt)
  clear hb2 hk H1 H2 HBK1
  go_upto_region 8 with (fail)
  refine boxed2 ?_
  intro W3 hB1 hB2 hB3 hB4
  have HBC := Lib.hid (HBK2.out.below hB3 HBK2.out.lt)
  have HBX := Lib.hid hB1
  have HBY := Lib.hid hB2
  have HB3 := Lib.hid (HB2.out.trans (hB3.mono HB2.out.size))
  clear hB1 hB2 hB3 HBK2
  have kc := fun d os => conf_at (HBC.out.regrown d os)
  have kx := fun d os => instr_at (HBX.out.regrown d os)
  have ky := fun d os => instr_at (HBY.out.regrown d os)
  have HXW := Lib.hid (fun W (hb : Below W3.heap.size W3 W) => ((HB3.out.trans (hb.mono HB3.out.size)).cell (p := ⟨rb, ro + r.toNat, none⟩) hrb).trans HX.out)
  refine wp_region_quiet_below (by kernel_rfl) (by kernel_rfl) ?_
  iterate 3 quiet_step (fail)
  quiet_step (exact quietly (fun W _ => HA1.out 1 0 _ _ W) _ _)
  iterate 3 quiet_step (fail)
  quiet_step (exact quietly (fun W hb => HA2.out 2 0 _ W (HXW.out W hb)) _ _)
  iterate 2 quiet_step (fail)
  refine wpQuiet_nil ?_
  intro W4 hw'
  have hb4 : Below W3.heap.size W3 W4 := by
    obtain ⟨⟨dq, osq⟩, hw''⟩ := hw'
    subst hw''
    exact below_regrown W3 dq osq
  have HBC4 := Lib.hid (HBC.out.below hb4 HBC.out.lt)
  have HBX4 := Lib.hid (HBX.out.below hb4 HBX.out.lt)
  have HBY4 := Lib.hid (HBY.out.below hb4 HBY.out.lt)
  have HB4' := Lib.hid (HB3.out.trans (hb4.mono HB3.out.size))
  have hfz := instr_fz HBY4.out
  have hky := instr_at HBY4.out
  clear kc kx ky HBC HBX HBY hw' HXW hb4
  go_upto_region 10 with (fail)
  have hne1 : w2.heap.size ≠ w2.heap.size + 1 := by omega
  have HBC5 := Lib.hid (HBC4.out.far (p := ⟨w2.heap.size + 1, 3, none⟩) (by have := HB2.out.size; simp; omega) (.int .i64 n))
  have HBX5 := Lib.hid (HBX4.out.far (p := ⟨w2.heap.size + 1, 3, none⟩) hne1 (.int .i64 n))
  have HBY5 := Lib.hid (HBY4.out.set_ 3 (.int .i64 n))
  have HB5 := Lib.hid (HB4'.out.setCell (p := ⟨w2.heap.size + 1, 3, none⟩) (by have := HB2.out.size; simp; omega) (.int .i64 n))
  clear HBC4 HBX4 HBY4 HB4' hfz hky
  generalize w2.heap.size = g at *
  generalize hW5 : W4.setCell ⟨g + 1, 3, none⟩ (.int .i64 n) = W5 at *
  clear hW5
  obtain ⟨hp1, hp2⟩ := hp
  obtain ⟨hq1, hq2⟩ := hq
  have HY5 : Hid (Blk W5 (g + 1) 26 #[.int .i64 2, .int .i64 0, .int .i64 b, .int .i64 n, .slice none 0 0]) := HBY5
  clear HBY5
  go_wp2_with (first
    | (go_at_call 8; refine (HF.out W5 (HE.out.below HB5.out)).mono ?_; rintro e w6 ⟨rfl, hb⟩; have HB6 := Lib.hid (HB5.out.trans (hb.mono HB5.out.size)); have HC6 := Lib.hid (HBC5.out.below hb HBC5.out.lt); have HX6 := Lib.hid (HBX5.out.below hb HBX5.out.lt); have HY6 := Lib.hid (HY5.out.below hb HY5.out.lt); have hk := (HB6.out.cell (p := ⟨rb, ro + r.toNat, none⟩) hrb).trans HX.out; have hc6 := conf_at HC6.out; have hy6 := instr_at HY6.out; clear hb)
    | (go_at_call 13; first | (with_reducible refine (HW1.out _).mono ?_; rintro e w7 ⟨rfl, rfl⟩) | (with_reducible refine (HW2.out _).mono ?_; rintro e w7 ⟨rfl, rfl⟩))
    | (go_at_call 12; with_reducible refine (HA3.out 2 0 _ _).mono ?_; rintro e w8 ⟨rfl, hb⟩; have HB8 := Lib.hid (HB6.out.trans (hb.mono HB6.out.size)); have hc8 := conf_at (HC6.out.below hb HC6.out.lt); have hx8 := instr_at (HX6.out.below hb HX6.out.lt); clear hb)
    | (go_at_call 12; with_reducible refine (HA1.out 1 0 _ _ _).mono ?_; rintro e w9 ⟨rfl, hb⟩; have HB9 := Lib.hid (HB8.out.trans (hb.mono HB8.out.size)); clear hb))
  go_ret
  exact ⟨rfl, HB9.out⟩
end Go.Proofs.YthkffcnifhcjoaaDoor
