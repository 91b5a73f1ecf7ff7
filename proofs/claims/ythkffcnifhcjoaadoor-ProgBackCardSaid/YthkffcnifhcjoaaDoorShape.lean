/- shape.Check computes Cf.chk of any configuration. -/
import Derived.Test.YthkffcnifhcjoaaDoorCalc
import Derived.Lib.QuietBelow
set_option linter.unusedSimpArgs false
set_option linter.unusedVariables false
namespace Go.Proofs.YthkffcnifhcjoaaDoor
open Go.RowKit

/-- A configuration, as the program hands it on. -/
structure Cf where
  rg : Int
  ob : Int
  st : Int
  wd : Int
  th : Int
  sl : Int
  rs : Int
  lk : Int
  un : Int
  es : Int
  tk : Int
  po : Int

def Cf.v (c : Cf) : Value := .agg #[.int .i64 c.rg, .int .i64 c.ob, .int .i64 c.st, .int .i64 c.wd, .int .i64 c.th, .int .i64 c.sl, .int .i64 c.rs, .int .i64 c.lk, .int .i64 c.un, .int .i64 c.es, .int .i64 c.tk, .int .i64 c.po]
/-- The rows that shape.Check looks at: a number, its least, its greatest. -/
def Cf.rows (c : Cf) : List (Int × Int × Int) := [(c.rg, 1, 8), (c.ob, 1, 8), (c.st, 1, 8), (c.wd, 1, 8), (c.th, 1, 64), (c.sl, 0, 48), (c.rs, 1, 8), (c.lk, 1, 4096), (c.un, 1, 1000), (c.es, 0, 64), (c.tk, 1, 10000), (c.po, 0, 2)]
def rowOk (r : Int × Int × Int) : Bool := decide (r.2.1 ≤ r.1) && decide (r.1 ≤ r.2.2)
def Cf.ok (c : Cf) : Bool := c.rows.all rowOk
def rowV (r : Int × Int × Int) : Value := .agg #[.int .i64 r.1, .int .i64 r.2.1, .int .i64 r.2.2]
def Cf.cells (c : Cf) : Array Value := (c.rows.flatMap fun r => [.int .i64 r.1, .int .i64 r.2.1, .int .i64 r.2.2]).toArray

theorem index_rows (c : Cf) (k : Nat) (hk : k < 12) : ∃ n lo hi : Int, c.rows[k]? = some (n, lo, hi) ∧
    ∀ w, (Instr.index 58 (.agg c.cells) (.int .i64 k)).run Tryd.prog w = .ok (.agg #[.int .i64 n, .int .i64 lo, .int .i64 hi]) w := by
  obtain ⟨c0, c1, c2, c3, c4, c5, c6, c7, c8, c9, c10, c11⟩ := c
  match k, hk with
  | 0, _ => exact ⟨c0, 1, 8, rfl, fun _ => by kernel_rfl⟩
  | 1, _ => exact ⟨c1, 1, 8, rfl, fun _ => by kernel_rfl⟩
  | 2, _ => exact ⟨c2, 1, 8, rfl, fun _ => by kernel_rfl⟩
  | 3, _ => exact ⟨c3, 1, 8, rfl, fun _ => by kernel_rfl⟩
  | 4, _ => exact ⟨c4, 1, 64, rfl, fun _ => by kernel_rfl⟩
  | 5, _ => exact ⟨c5, 0, 48, rfl, fun _ => by kernel_rfl⟩
  | 6, _ => exact ⟨c6, 1, 8, rfl, fun _ => by kernel_rfl⟩
  | 7, _ => exact ⟨c7, 1, 4096, rfl, fun _ => by kernel_rfl⟩
  | 8, _ => exact ⟨c8, 1, 1000, rfl, fun _ => by kernel_rfl⟩
  | 9, _ => exact ⟨c9, 0, 64, rfl, fun _ => by kernel_rfl⟩
  | 10, _ => exact ⟨c10, 1, 10000, rfl, fun _ => by kernel_rfl⟩
  | 11, _ => exact ⟨c11, 0, 2, rfl, fun _ => by kernel_rfl⟩

theorem ok_yes (c : Cf) (h : ∀ j, j < 12 → ∀ r, c.rows[j]? = some r → rowOk r = true) : c.ok = true := by
  unfold Cf.ok
  rw [List.all_eq_true]
  intro r hr
  obtain ⟨j, hj, e⟩ := List.getElem_of_mem hr
  exact h j hj r (by rw [List.getElem?_eq_getElem hj, e])
theorem ok_no (c : Cf) (j : Nat) (r : Int × Int × Int) (hr : c.rows[j]? = some r) (h : rowOk r = false) : c.ok = false := by
  unfold Cf.ok
  rw [List.all_eq_false]
  exact ⟨r, List.mem_of_getElem? hr, by simp [h]⟩

def Cf.chk (c : Cf) : Int := if c.ok then 0 else 1
theorem chk_yes (c : Cf) (h : ∀ j, j < 12 → ∀ r, c.rows[j]? = some r → rowOk r = true) : c.chk = 0 := by unfold Cf.chk; rw [ok_yes c h]; rfl
theorem chk_no (c : Cf) (j : Nat) (r : Int × Int × Int) (hr : c.rows[j]? = some r) (h : rowOk r = false) : c.chk = 1 := by unfold Cf.chk; rw [ok_no c j r hr h]; rfl

set_option maxHeartbeats 2000000 in
set_option maxRecDepth 100000 in
theorem Check_any (c : Cf) (w : World) :
    Calls Tryd.prog 20 #[c.v] w fun e w' => e = .returned (.int .i64 c.chk) ∧ Below w.heap.size w w' := by
  have h1 := index_rows c
  have h2 := chk_yes c
  have h3 := chk_no c
  generalize hcs : c.cells = cs at h1
  generalize c.chk = res at h2 h3 ⊢
  generalize c.rows = rows at h1 h2 h3
  have HI := Lib.hid h1
  have HY := Lib.hid h2
  have HN := Lib.hid h3
  clear h1 h2 h3
  obtain ⟨c0, c1, c2, c3, c4, c5, c6, c7, c8, c9, c10, c11⟩ := c
  unfold Cf.v
  dsimp only
  have HC := Lib.hid hcs
  clear hcs
  go_enter Tryd.func20, Tryd.ntmps20
  go_wp2
  have hc : (.agg #[.int .i64 c0, .int .i64 1, .int .i64 8, .int .i64 c1, .int .i64 1, .int .i64 8, .int .i64 c2, .int .i64 1, .int .i64 8, .int .i64 c3, .int .i64 1, .int .i64 8, .int .i64 c4, .int .i64 1, .int .i64 64, .int .i64 c5, .int .i64 0, .int .i64 48, .int .i64 c6, .int .i64 1, .int .i64 8, .int .i64 c7, .int .i64 1, .int .i64 4096, .int .i64 c8, .int .i64 1, .int .i64 1000, .int .i64 c9, .int .i64 0, .int .i64 64, .int .i64 c10, .int .i64 1, .int .i64 10000, .int .i64 c11, .int .i64 0, .int .i64 2] : Value) = .agg cs := congrArg Value.agg HC.out
  rw [hc]
  clear hc HC
  go_loopg [42] 12 (fun gg s42 wr => ∃ k : Nat, k ≤ 12 ∧ 12 - k ≤ gg ∧ s42 = .int .i64 k ∧ Aside (Below w.heap.size w wr) ∧ Aside (∀ j, j < k → ∀ r, rows[j]? = some r → rowOk r = true))
  case atStart => exact ⟨0, by omega, by omega, rfl, (Below.refl _ _).alloc (Nat.le_refl _) _, fun j hj => absurd hj (Nat.not_lt_zero _)⟩
  case round =>
    obtain ⟨k, hk, hg, rfl, BW, A⟩ := hrel
    have hsz : w.heap.size ≤ wr.heap.size := BW.out.size
    by_cases hlt : k < 12
    · obtain ⟨n, lo, hi, hrow, hix⟩ := HI.out k hlt
      have HR := Lib.hid hrow
      clear hrow
      by_cases h1 : n < lo
      · go_wp2
        go_ret
        refine ⟨?_, ?_⟩
        · rw [HN.out k _ HR.out (by simp [rowOk]; omega)]; rfl
        · exact BW.out.alloc hsz _
      · by_cases h2 : hi < n
        · go_wp2
          go_ret
          refine ⟨?_, ?_⟩
          · rw [HN.out k _ HR.out (by simp [rowOk]; omega)]; rfl
          · exact BW.out.alloc hsz _
        · go_wp2
          go_roundg (12 - (k + 1))
          case measure => omega
          case rel =>
            refine ⟨k + 1, by omega, by omega, by go_num, (show Aside _ from ?_), (show Aside _ from ?_)⟩
            · exact BW.out.alloc hsz _
            · intro j hj r hr
              by_cases e : j = k
              · subst e
                have := HR.out.symm.trans hr
                injection this with this
                subst this
                simp [rowOk]; omega
              · exact A.out j (by omega) r hr
    · have : k = 12 := by omega
      subst this
      go_wp2
      go_ret
      refine ⟨?_, BW.out⟩
      rw [HY.out A.out]; rfl
end Go.Proofs.YthkffcnifhcjoaaDoor
