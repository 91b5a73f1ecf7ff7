/- calc.Wrap, calc.Known and prog.word compute wrapZ, knownK, wordB, wordN, wordL, whatever their arguments. -/
import Derived.Test.YthkffcnifhcjoaaDoorBase
set_option linter.unusedSimpArgs false
set_option linter.unusedVariables false
namespace Go.Proofs.YthkffcnifhcjoaaDoor
open Go.RowKit

/-- calc.Wrap: a number modulo another one. -/
def wrapZ (n m : Int) : Int := if m < 1 then 0 else n % m

theorem tmod_bounds (n m : Int) (h : 1 ≤ m) : -m < n.tmod m ∧ n.tmod m < m := by
  have h1 := Int.tmod_lt_of_pos n (show 0 < m by omega)
  have h2 : -m < n.tmod m := by
    have := Int.lt_tmod_of_pos n (show 0 < m by omega)
    omega
  exact ⟨h2, h1⟩

theorem tmod_emod (n m : Int) (h : 1 ≤ m) : n % m = if n.tmod m < 0 then n.tmod m + m else n.tmod m := by
  have hb := tmod_bounds n m h
  have h1 : n % m = (n.tmod m) % m := by
    have h2 : n = m * (n.tdiv m) + n.tmod m := (Int.mul_tdiv_add_tmod n m).symm
    conv => lhs; rw [h2]
    simp [Int.add_emod]
  rw [h1]
  split
  · have : (n.tmod m) % m = (n.tmod m + m) % m := by simp
    rw [this, Int.emod_eq_of_lt (by omega) (by omega)]
  · rw [Int.emod_eq_of_lt (by omega) (by omega)]

set_option maxHeartbeats 400000 in
theorem Wrap_any (n m : Int) (w : World) (hm2 : m ≤ 9223372036854775807) :
    Calls Tryd.prog 13 #[.int .i64 n, .int .i64 m] w fun e w' => e = .returned (.int .i64 (wrapZ n m)) ∧ w = w' := by
  by_cases h : m < 1
  · go_enter Tryd.func13, Tryd.ntmps13
    go_wp2
    go_ret
    exact ⟨by simp [wrapZ, h], rfl⟩
  · have hb := tmod_bounds n m (by omega)
    obtain ⟨hb1, hb2⟩ := hb
    have H := Lib.hid (tmod_emod n m (by omega))
    go_enter Tryd.func13, Tryd.ntmps13
    go_wp2
    · go_ret
      refine ⟨?_, rfl⟩
      unfold wrapZ; rw [if_neg (by omega), H.out, if_pos (by assumption)]; rfl
    · go_ret
      refine ⟨?_, rfl⟩
      unfold wrapZ; rw [if_neg (by omega), H.out, if_neg (by omega)]; rfl

/-- calc.Known. -/
def knownK (k : Int) : Bool := decide (0 ≤ k) && decide (k ≤ 8)

set_option maxHeartbeats 400000 in
theorem KnownK_any (k : Int) (w : World) :
    Calls Tryd.prog 18 #[.int .i64 k] w fun e w' => e = .returned (.bool (knownK k)) ∧ w = w' := by
  by_cases h : 0 ≤ k
  · go_enter Tryd.func18, Tryd.ntmps18
    go_wp2
    go_ret
    exact ⟨by simp [knownK, h], rfl⟩
  · go_enter Tryd.func18, Tryd.ntmps18
    go_wp2
    go_ret
    exact ⟨by rw [show knownK k = false from by simp [knownK]; omega]; rfl, rfl⟩

/-- prog.word: a kind's word, how many numbers stand behind it, whether a list does. -/
def wordB (k : Int) : List UInt8 :=
  if k = 1 then [114, 101, 97, 100] else if k = 2 then [119, 114, 105, 116, 101] else if k = 3 then [99, 111, 110, 115, 116] else if k = 4 then [99, 97, 108, 99]
  else if k = 5 then [106, 117, 109, 112] else if k = 6 then [114, 101, 116, 114, 121] else if k = 7 then [97, 98, 111, 114, 116] else []
def wordN (k : Int) : Int := if k = 1 then 3 else if k = 2 then 3 else if k = 3 then 2 else if k = 4 then 2 else if k = 5 then 2 else 0
def wordL (k : Int) : Bool := decide (k = 4)

set_option maxHeartbeats 1000000 in
theorem word_any (k : Int) (w : World) :
    Calls Tryd.prog 29 #[.int .i64 k] w fun e w' => e = .returned (.tuple #[.string ⟨(wordB k).toArray⟩, .int .i64 (wordN k), .bool (wordL k)]) ∧ w = w' := by
  by_cases h1 : k = 1
  · subst h1; go_enter Tryd.func29, Tryd.ntmps29; go_wp2; go_ret3; exact ⟨rfl, rfl⟩
  by_cases h2 : k = 2
  · subst h2; go_enter Tryd.func29, Tryd.ntmps29; go_wp2; go_ret3; exact ⟨rfl, rfl⟩
  by_cases h3 : k = 3
  · subst h3; go_enter Tryd.func29, Tryd.ntmps29; go_wp2; go_ret3; exact ⟨rfl, rfl⟩
  by_cases h4 : k = 4
  · subst h4; go_enter Tryd.func29, Tryd.ntmps29; go_wp2; go_ret3; exact ⟨rfl, rfl⟩
  by_cases h5 : k = 5
  · subst h5; go_enter Tryd.func29, Tryd.ntmps29; go_wp2; go_ret3; exact ⟨rfl, rfl⟩
  by_cases h6 : k = 6
  · subst h6; go_enter Tryd.func29, Tryd.ntmps29; go_wp2; go_ret3; exact ⟨rfl, rfl⟩
  by_cases h7 : k = 7
  · subst h7; go_enter Tryd.func29, Tryd.ntmps29; go_wp2; go_ret3; exact ⟨rfl, rfl⟩
  have e1 : (k == 1) = false := beq_eq_false_iff_ne.2 h1
  have e2 : (k == 2) = false := beq_eq_false_iff_ne.2 h2
  have e3 : (k == 3) = false := beq_eq_false_iff_ne.2 h3
  have e4 : (k == 4) = false := beq_eq_false_iff_ne.2 h4
  have e5 : (k == 5) = false := beq_eq_false_iff_ne.2 h5
  have e6 : (k == 6) = false := beq_eq_false_iff_ne.2 h6
  have e7 : (k == 7) = false := beq_eq_false_iff_ne.2 h7
  have hfin : (Value.tuple #[.string ⟨(wordB k).toArray⟩, .int .i64 (wordN k), .bool (wordL k)]) = .tuple #[.string ⟨#[]⟩, .int .i64 0, .bool false] := by
    simp [wordB, wordN, wordL, h1, h2, h3, h4, h5, h6, h7]
  have H := Lib.hid hfin
  clear hfin h1 h2 h3 h4 h5 h6 h7
  go_enter Tryd.func29, Tryd.ntmps29; go_wp2; go_ret3
  exact ⟨by rw [H.out]; rfl, rfl⟩

end Go.Proofs.YthkffcnifhcjoaaDoor
