/- prog.may computes mayB, case by case. -/
import Derived.Test.YthkffcnifhcjoaaDoorLine
set_option linter.unusedSimpArgs false
set_option linter.unusedVariables false
namespace Go.Proofs.YthkffcnifhcjoaaDoor
open Go.RowKit Go.Sort

/-- Is it no register? -/
def noneB (c : Cf) (r : Int) : Bool := decide (r < 0) || decide (c.rs ≤ r)
/-- prog.may. -/
def mayB (c : Cf) (x : In) (at_ many : Int) : Bool :=
  if wordB x.k = [] then false else if 0 < wordN x.k ∧ noneB c x.a = true then false else if wordL x.k = false ∧ x.l ≠ [] then false
  else if x.k = 1 ∨ x.k = 2 then decide (x.c = -1) || !noneB c x.c
  else if x.k = 4 then knownK x.b && decide (0 < x.l.length) && decide (x.l.length ≤ 8) && !x.l.any (noneB c)
  else if x.k = 5 then decide (at_ < x.b) && decide (x.b ≤ many) else true

set_option maxHeartbeats 1000000 in
theorem none_any (c : Cf) (r : Int) (g : Nat) (w : World) (hc : w.cell? ⟨g, 6, none⟩ = some (.int .i64 c.rs)) :
    Calls Tryd.prog 28 #[.int .i64 r, .pointer (some ⟨g, 0, none⟩)] w fun e w' => e = .returned (.bool (noneB c r)) ∧ w = w' := by
  unfold noneB
  generalize c.rs = n at hc ⊢
  by_cases h : r < 0
  · go_enter Tryd.func28, Tryd.ntmps28
    go_wp2
    go_ret
    exact ⟨by simp [h], rfl⟩
  · have h' : decide (r < 0) = false := decide_eq_false h
    go_enter Tryd.func28, Tryd.ntmps28
    go_wp2
    go_ret
    exact ⟨by simp [h'], rfl⟩

theorem none_pred (c : Cf) (g : Nat) (w : World) (hg : g < w.heap.size) (hc : w.cell? ⟨g, 6, none⟩ = some (.int .i64 c.rs)) :
    PredAt Tryd.prog 28 #[.pointer (some ⟨g, 0, none⟩)] (Value.int .i64) (noneB c) w := fun W r hb => by
  have hc' := (hb.cell (p := ⟨g, 6, none⟩) hg).trans hc
  unfold FnGives
  exact (none_any c r g W hc').mono fun e w' ⟨he, hw⟩ => ⟨he, 0, hw.symm⟩

/-- slices.ContainsFunc over registers. -/
theorem anyNone (c : Cf) (g : Nat) (A : Option Addr) (xs : List Int) (cap : Nat) (w : World) (hg : g < w.heap.size) (hc : w.cell? ⟨g, 6, none⟩ = some (.int .i64 c.rs)) (hlen : xs.length ≤ 1000)
    (hL : Reads w w.heap.size 1 A xs.length (xs.map (Value.int .i64))) :
    Calls Tryd.prog 30 #[.slice A xs.length cap, .func (.func 28) #[] #[.pointer (some ⟨g, 0, none⟩)]] w fun e w' => e = .returned (.bool (xs.any (noneB c))) ∧ ∃ q, w' = w.drewN q := by
  rcases Nat.eq_zero_or_pos xs.length with h0 | h0
  · have : xs = [] := List.eq_nil_of_length_eq_zero h0
    subst this
    exact (Tryd.slices_ContainsFunc_empty (α := Int) A cap _ w).mono fun e w' ⟨he, hw⟩ => ⟨by rw [he]; rfl, 0, by rw [hw]; rfl⟩
  · obtain ⟨b, o, u, hA, hb, _, _⟩ := hL.get_ h0
    subst hA
    have h := Tryd.slices_ContainsFunc (Value.int .i64) (noneB c) 28 #[.pointer (some ⟨g, 0, none⟩)] (enters_of Tryd.func28 (by kernel_rfl) rfl) b o xs.length cap xs w
      (none_pred c g w hg hc) (Nat.le_refl _) (by omega) (fun j hj => by
        obtain ⟨b', o', u', hA', _, hx', hc'⟩ := hL.get_ hj
        injection hA' with hA'
        injection hA' with hb' ho'
        subst hb' ho'
        rw [hc', ← hx', List.getElem?_map, List.getElem?_eq_getElem hj, getElem!_pos xs j hj]
        rfl)
    rw [List.take_of_length_le (Nat.le_refl _)] at h
    exact h

/-- The kinds. -/
theorem kinds_of {k : Int} (h : wordB k ≠ []) : k = 1 ∨ k = 2 ∨ k = 3 ∨ k = 4 ∨ k = 5 ∨ k = 6 ∨ k = 7 := by
  unfold wordB at h
  repeat' split at h
  all_goals first | (exact absurd rfl h) | omega

theorem may_odd (c : Cf) (k a b ci : Int) (L : Value) (at_ many : Int) (w : World) (h : wordB k = []) :
    Calls Tryd.prog 21 #[c.v, .agg #[.int .i64 k, .int .i64 a, .int .i64 b, .int .i64 ci, L], .int .i64 at_, .int .i64 many] w fun e w' => e = .returned (.bool false) ∧ Below w.heap.size w w' := by
  have HW := word_any k
  rw [h] at HW
  generalize wordN k = n at HW
  generalize wordL k = l at HW
  have HW := Lib.hid HW
  obtain ⟨c0, c1, c2, c3, c4, c5, c6, c7, c8, c9, c10, c11⟩ := c
  unfold Cf.v
  dsimp only
  go_enter Tryd.func21, Tryd.ntmps21
  go_wp2_with (go_at_call 29; refine (HW.out _).mono ?_; rintro e w1 ⟨rfl, rfl⟩)
  go_ret
  exact ⟨rfl, below_two (Below.refl _ _)⟩

set_option maxHeartbeats 1000000 in
set_option maxRecDepth 100000 in
theorem may1_a (c : Cf) (a b ci : Int) (A : Option Addr) (l : List Int) (cap : Nat) (at_ many : Int) (w : World) (hL : Reads w w.heap.size 1 A l.length (l.map (Value.int .i64))) (hlen : l.length ≤ 1000) (hna : noneB c a = true) :
    Calls Tryd.prog 21 #[c.v, .agg #[.int .i64 1, .int .i64 a, .int .i64 b, .int .i64 ci, .slice A l.length cap], .int .i64 at_, .int .i64 many] w fun e w' => e = .returned (.bool (false)) ∧ Below w.heap.size w w' := by
  have HW : Hid (∀ w, Calls Tryd.prog 29 #[.int .i64 1] w fun e w' => e = .returned (.tuple #[.string ⟨([114, 101, 97, 100] : List UInt8).toArray⟩, .int .i64 3, .bool false]) ∧ w = w') := Lib.hid (word_any 1)
  have HNo := Lib.hid (fun r g w hc => none_any c r g w hc)
  have HAny := Lib.hid (fun W (hW : Below w.heap.size w W) g (hg : g < W.heap.size) hc => anyNone c g A l cap W hg hc hlen ((hL.below hW).more hW.size))
  have HK := Lib.hid (fun w => KnownK_any b w)
  clear hL
  obtain ⟨c0, c1, c2, c3, c4, c5, c6, c7, c8, c9, c10, c11⟩ := c
  unfold Cf.v
  dsimp only at *
  go_enter Tryd.func21, Tryd.ntmps21
  go_upto_region 1 with (fail)
  refine boxed2 ?_
  intro W0 hB1 hB2 hB3 hB4
  have k1 := conf_at hB1
  have k2 := instr_at hB2
  have hc6 := k1.2.2.2.2.2.2.1
  have hgl := hB1.lt
  have HB := Lib.hid hB3
  clear hB1 hB2 hB3
  go_wp2_with (first | (go_at_call 29; refine (HW.out _).mono ?_; rintro e w1 ⟨rfl, rfl⟩) | (go_at_call 28; refine (HNo.out _ _ _ hc6).mono ?_; rintro e w1 ⟨rfl, rfl⟩) | (go_at_call 18; refine (HK.out _).mono ?_; rintro e w1 ⟨rfl, rfl⟩) | (go_at_call 30; refine (HAny.out _ HB.out _ hgl hc6).mono ?_; rintro e w1 ⟨rfl, q, rfl⟩))
  go_ret
  first | exact ⟨rfl, HB.out⟩ | exact ⟨rfl, below_drewN HB.out _⟩

set_option maxHeartbeats 1000000 in
set_option maxRecDepth 100000 in
theorem may1_l (c : Cf) (a b ci : Int) (A : Option Addr) (l : List Int) (cap : Nat) (at_ many : Int) (w : World) (hL : Reads w w.heap.size 1 A l.length (l.map (Value.int .i64))) (hlen : l.length ≤ 1000) (hna : noneB c a = false) (hl : 0 < l.length) :
    Calls Tryd.prog 21 #[c.v, .agg #[.int .i64 1, .int .i64 a, .int .i64 b, .int .i64 ci, .slice A l.length cap], .int .i64 at_, .int .i64 many] w fun e w' => e = .returned (.bool (false)) ∧ Below w.heap.size w w' := by
  have HW : Hid (∀ w, Calls Tryd.prog 29 #[.int .i64 1] w fun e w' => e = .returned (.tuple #[.string ⟨([114, 101, 97, 100] : List UInt8).toArray⟩, .int .i64 3, .bool false]) ∧ w = w') := Lib.hid (word_any 1)
  have HNo := Lib.hid (fun r g w hc => none_any c r g w hc)
  have HAny := Lib.hid (fun W (hW : Below w.heap.size w W) g (hg : g < W.heap.size) hc => anyNone c g A l cap W hg hc hlen ((hL.below hW).more hW.size))
  have HK := Lib.hid (fun w => KnownK_any b w)
  clear hL
  obtain ⟨c0, c1, c2, c3, c4, c5, c6, c7, c8, c9, c10, c11⟩ := c
  unfold Cf.v
  dsimp only at *
  go_enter Tryd.func21, Tryd.ntmps21
  go_upto_region 1 with (fail)
  refine boxed2 ?_
  intro W0 hB1 hB2 hB3 hB4
  have k1 := conf_at hB1
  have k2 := instr_at hB2
  have hc6 := k1.2.2.2.2.2.2.1
  have hgl := hB1.lt
  have HB := Lib.hid hB3
  clear hB1 hB2 hB3
  go_wp2_with (first | (go_at_call 29; refine (HW.out _).mono ?_; rintro e w1 ⟨rfl, rfl⟩) | (go_at_call 28; refine (HNo.out _ _ _ hc6).mono ?_; rintro e w1 ⟨rfl, rfl⟩) | (go_at_call 18; refine (HK.out _).mono ?_; rintro e w1 ⟨rfl, rfl⟩) | (go_at_call 30; refine (HAny.out _ HB.out _ hgl hc6).mono ?_; rintro e w1 ⟨rfl, q, rfl⟩))
  go_ret
  first | exact ⟨rfl, HB.out⟩ | exact ⟨rfl, below_drewN HB.out _⟩

set_option maxHeartbeats 1000000 in
set_option maxRecDepth 100000 in
theorem may1_m (c : Cf) (a b ci : Int) (A : Option Addr) (l : List Int) (cap : Nat) (at_ many : Int) (w : World) (hL : Reads w w.heap.size 1 A l.length (l.map (Value.int .i64))) (hlen : l.length ≤ 1000) (hna : noneB c a = false) (hl : l.length = 0) (hc : ci = -1) :
    Calls Tryd.prog 21 #[c.v, .agg #[.int .i64 1, .int .i64 a, .int .i64 b, .int .i64 ci, .slice A l.length cap], .int .i64 at_, .int .i64 many] w fun e w' => e = .returned (.bool (true)) ∧ Below w.heap.size w w' := by
  have HW : Hid (∀ w, Calls Tryd.prog 29 #[.int .i64 1] w fun e w' => e = .returned (.tuple #[.string ⟨([114, 101, 97, 100] : List UInt8).toArray⟩, .int .i64 3, .bool false]) ∧ w = w') := Lib.hid (word_any 1)
  have HNo := Lib.hid (fun r g w hc => none_any c r g w hc)
  have HAny := Lib.hid (fun W (hW : Below w.heap.size w W) g (hg : g < W.heap.size) hc => anyNone c g A l cap W hg hc hlen ((hL.below hW).more hW.size))
  have HK := Lib.hid (fun w => KnownK_any b w)
  clear hL
  subst hc
  obtain ⟨c0, c1, c2, c3, c4, c5, c6, c7, c8, c9, c10, c11⟩ := c
  unfold Cf.v
  dsimp only at *
  go_enter Tryd.func21, Tryd.ntmps21
  go_upto_region 1 with (fail)
  refine boxed2 ?_
  intro W0 hB1 hB2 hB3 hB4
  have k1 := conf_at hB1
  have k2 := instr_at hB2
  have hc6 := k1.2.2.2.2.2.2.1
  have hgl := hB1.lt
  have HB := Lib.hid hB3
  clear hB1 hB2 hB3
  go_wp2_with (first | (go_at_call 29; refine (HW.out _).mono ?_; rintro e w1 ⟨rfl, rfl⟩) | (go_at_call 28; refine (HNo.out _ _ _ hc6).mono ?_; rintro e w1 ⟨rfl, rfl⟩) | (go_at_call 18; refine (HK.out _).mono ?_; rintro e w1 ⟨rfl, rfl⟩) | (go_at_call 30; refine (HAny.out _ HB.out _ hgl hc6).mono ?_; rintro e w1 ⟨rfl, q, rfl⟩))
  go_ret
  first | exact ⟨rfl, HB.out⟩ | exact ⟨rfl, below_drewN HB.out _⟩

set_option maxHeartbeats 1000000 in
set_option maxRecDepth 100000 in
theorem may1_c (c : Cf) (a b ci : Int) (A : Option Addr) (l : List Int) (cap : Nat) (at_ many : Int) (w : World) (hL : Reads w w.heap.size 1 A l.length (l.map (Value.int .i64))) (hlen : l.length ≤ 1000) (hna : noneB c a = false) (hl : l.length = 0) (hc : (ci == -1) = false) :
    Calls Tryd.prog 21 #[c.v, .agg #[.int .i64 1, .int .i64 a, .int .i64 b, .int .i64 ci, .slice A l.length cap], .int .i64 at_, .int .i64 many] w fun e w' => e = .returned (.bool (!noneB c ci)) ∧ Below w.heap.size w w' := by
  have HW : Hid (∀ w, Calls Tryd.prog 29 #[.int .i64 1] w fun e w' => e = .returned (.tuple #[.string ⟨([114, 101, 97, 100] : List UInt8).toArray⟩, .int .i64 3, .bool false]) ∧ w = w') := Lib.hid (word_any 1)
  have HNo := Lib.hid (fun r g w hc => none_any c r g w hc)
  have HAny := Lib.hid (fun W (hW : Below w.heap.size w W) g (hg : g < W.heap.size) hc => anyNone c g A l cap W hg hc hlen ((hL.below hW).more hW.size))
  have HK := Lib.hid (fun w => KnownK_any b w)
  clear hL
  obtain ⟨c0, c1, c2, c3, c4, c5, c6, c7, c8, c9, c10, c11⟩ := c
  unfold Cf.v
  dsimp only at *
  go_enter Tryd.func21, Tryd.ntmps21
  go_upto_region 1 with (fail)
  refine boxed2 ?_
  intro W0 hB1 hB2 hB3 hB4
  have k1 := conf_at hB1
  have k2 := instr_at hB2
  have hc6 := k1.2.2.2.2.2.2.1
  have hgl := hB1.lt
  have HB := Lib.hid hB3
  clear hB1 hB2 hB3
  go_wp2_with (first | (go_at_call 29; refine (HW.out _).mono ?_; rintro e w1 ⟨rfl, rfl⟩) | (go_at_call 28; refine (HNo.out _ _ _ hc6).mono ?_; rintro e w1 ⟨rfl, rfl⟩) | (go_at_call 18; refine (HK.out _).mono ?_; rintro e w1 ⟨rfl, rfl⟩) | (go_at_call 30; refine (HAny.out _ HB.out _ hgl hc6).mono ?_; rintro e w1 ⟨rfl, q, rfl⟩))
  go_ret
  first | exact ⟨rfl, HB.out⟩ | exact ⟨rfl, below_drewN HB.out _⟩

set_option maxHeartbeats 1000000 in
set_option maxRecDepth 100000 in
theorem may2_a (c : Cf) (a b ci : Int) (A : Option Addr) (l : List Int) (cap : Nat) (at_ many : Int) (w : World) (hL : Reads w w.heap.size 1 A l.length (l.map (Value.int .i64))) (hlen : l.length ≤ 1000) (hna : noneB c a = true) :
    Calls Tryd.prog 21 #[c.v, .agg #[.int .i64 2, .int .i64 a, .int .i64 b, .int .i64 ci, .slice A l.length cap], .int .i64 at_, .int .i64 many] w fun e w' => e = .returned (.bool (false)) ∧ Below w.heap.size w w' := by
  have HW : Hid (∀ w, Calls Tryd.prog 29 #[.int .i64 2] w fun e w' => e = .returned (.tuple #[.string ⟨([119, 114, 105, 116, 101] : List UInt8).toArray⟩, .int .i64 3, .bool false]) ∧ w = w') := Lib.hid (word_any 2)
  have HNo := Lib.hid (fun r g w hc => none_any c r g w hc)
  have HAny := Lib.hid (fun W (hW : Below w.heap.size w W) g (hg : g < W.heap.size) hc => anyNone c g A l cap W hg hc hlen ((hL.below hW).more hW.size))
  have HK := Lib.hid (fun w => KnownK_any b w)
  clear hL
  obtain ⟨c0, c1, c2, c3, c4, c5, c6, c7, c8, c9, c10, c11⟩ := c
  unfold Cf.v
  dsimp only at *
  go_enter Tryd.func21, Tryd.ntmps21
  go_upto_region 1 with (fail)
  refine boxed2 ?_
  intro W0 hB1 hB2 hB3 hB4
  have k1 := conf_at hB1
  have k2 := instr_at hB2
  have hc6 := k1.2.2.2.2.2.2.1
  have hgl := hB1.lt
  have HB := Lib.hid hB3
  clear hB1 hB2 hB3
  go_wp2_with (first | (go_at_call 29; refine (HW.out _).mono ?_; rintro e w1 ⟨rfl, rfl⟩) | (go_at_call 28; refine (HNo.out _ _ _ hc6).mono ?_; rintro e w1 ⟨rfl, rfl⟩) | (go_at_call 18; refine (HK.out _).mono ?_; rintro e w1 ⟨rfl, rfl⟩) | (go_at_call 30; refine (HAny.out _ HB.out _ hgl hc6).mono ?_; rintro e w1 ⟨rfl, q, rfl⟩))
  go_ret
  first | exact ⟨rfl, HB.out⟩ | exact ⟨rfl, below_drewN HB.out _⟩

set_option maxHeartbeats 1000000 in
set_option maxRecDepth 100000 in
theorem may2_l (c : Cf) (a b ci : Int) (A : Option Addr) (l : List Int) (cap : Nat) (at_ many : Int) (w : World) (hL : Reads w w.heap.size 1 A l.length (l.map (Value.int .i64))) (hlen : l.length ≤ 1000) (hna : noneB c a = false) (hl : 0 < l.length) :
    Calls Tryd.prog 21 #[c.v, .agg #[.int .i64 2, .int .i64 a, .int .i64 b, .int .i64 ci, .slice A l.length cap], .int .i64 at_, .int .i64 many] w fun e w' => e = .returned (.bool (false)) ∧ Below w.heap.size w w' := by
  have HW : Hid (∀ w, Calls Tryd.prog 29 #[.int .i64 2] w fun e w' => e = .returned (.tuple #[.string ⟨([119, 114, 105, 116, 101] : List UInt8).toArray⟩, .int .i64 3, .bool false]) ∧ w = w') := Lib.hid (word_any 2)
  have HNo := Lib.hid (fun r g w hc => none_any c r g w hc)
  have HAny := Lib.hid (fun W (hW : Below w.heap.size w W) g (hg : g < W.heap.size) hc => anyNone c g A l cap W hg hc hlen ((hL.below hW).more hW.size))
  have HK := Lib.hid (fun w => KnownK_any b w)
  clear hL
  obtain ⟨c0, c1, c2, c3, c4, c5, c6, c7, c8, c9, c10, c11⟩ := c
  unfold Cf.v
  dsimp only at *
  go_enter Tryd.func21, Tryd.ntmps21
  go_upto_region 1 with (fail)
  refine boxed2 ?_
  intro W0 hB1 hB2 hB3 hB4
  have k1 := conf_at hB1
  have k2 := instr_at hB2
  have hc6 := k1.2.2.2.2.2.2.1
  have hgl := hB1.lt
  have HB := Lib.hid hB3
  clear hB1 hB2 hB3
  go_wp2_with (first | (go_at_call 29; refine (HW.out _).mono ?_; rintro e w1 ⟨rfl, rfl⟩) | (go_at_call 28; refine (HNo.out _ _ _ hc6).mono ?_; rintro e w1 ⟨rfl, rfl⟩) | (go_at_call 18; refine (HK.out _).mono ?_; rintro e w1 ⟨rfl, rfl⟩) | (go_at_call 30; refine (HAny.out _ HB.out _ hgl hc6).mono ?_; rintro e w1 ⟨rfl, q, rfl⟩))
  go_ret
  first | exact ⟨rfl, HB.out⟩ | exact ⟨rfl, below_drewN HB.out _⟩

set_option maxHeartbeats 1000000 in
set_option maxRecDepth 100000 in
theorem may2_m (c : Cf) (a b ci : Int) (A : Option Addr) (l : List Int) (cap : Nat) (at_ many : Int) (w : World) (hL : Reads w w.heap.size 1 A l.length (l.map (Value.int .i64))) (hlen : l.length ≤ 1000) (hna : noneB c a = false) (hl : l.length = 0) (hc : ci = -1) :
    Calls Tryd.prog 21 #[c.v, .agg #[.int .i64 2, .int .i64 a, .int .i64 b, .int .i64 ci, .slice A l.length cap], .int .i64 at_, .int .i64 many] w fun e w' => e = .returned (.bool (true)) ∧ Below w.heap.size w w' := by
  have HW : Hid (∀ w, Calls Tryd.prog 29 #[.int .i64 2] w fun e w' => e = .returned (.tuple #[.string ⟨([119, 114, 105, 116, 101] : List UInt8).toArray⟩, .int .i64 3, .bool false]) ∧ w = w') := Lib.hid (word_any 2)
  have HNo := Lib.hid (fun r g w hc => none_any c r g w hc)
  have HAny := Lib.hid (fun W (hW : Below w.heap.size w W) g (hg : g < W.heap.size) hc => anyNone c g A l cap W hg hc hlen ((hL.below hW).more hW.size))
  have HK := Lib.hid (fun w => KnownK_any b w)
  clear hL
  subst hc
  obtain ⟨c0, c1, c2, c3, c4, c5, c6, c7, c8, c9, c10, c11⟩ := c
  unfold Cf.v
  dsimp only at *
  go_enter Tryd.func21, Tryd.ntmps21
  go_upto_region 1 with (fail)
  refine boxed2 ?_
  intro W0 hB1 hB2 hB3 hB4
  have k1 := conf_at hB1
  have k2 := instr_at hB2
  have hc6 := k1.2.2.2.2.2.2.1
  have hgl := hB1.lt
  have HB := Lib.hid hB3
  clear hB1 hB2 hB3
  go_wp2_with (first | (go_at_call 29; refine (HW.out _).mono ?_; rintro e w1 ⟨rfl, rfl⟩) | (go_at_call 28; refine (HNo.out _ _ _ hc6).mono ?_; rintro e w1 ⟨rfl, rfl⟩) | (go_at_call 18; refine (HK.out _).mono ?_; rintro e w1 ⟨rfl, rfl⟩) | (go_at_call 30; refine (HAny.out _ HB.out _ hgl hc6).mono ?_; rintro e w1 ⟨rfl, q, rfl⟩))
  go_ret
  first | exact ⟨rfl, HB.out⟩ | exact ⟨rfl, below_drewN HB.out _⟩

set_option maxHeartbeats 1000000 in
set_option maxRecDepth 100000 in
theorem may2_c (c : Cf) (a b ci : Int) (A : Option Addr) (l : List Int) (cap : Nat) (at_ many : Int) (w : World) (hL : Reads w w.heap.size 1 A l.length (l.map (Value.int .i64))) (hlen : l.length ≤ 1000) (hna : noneB c a = false) (hl : l.length = 0) (hc : (ci == -1) = false) :
    Calls Tryd.prog 21 #[c.v, .agg #[.int .i64 2, .int .i64 a, .int .i64 b, .int .i64 ci, .slice A l.length cap], .int .i64 at_, .int .i64 many] w fun e w' => e = .returned (.bool (!noneB c ci)) ∧ Below w.heap.size w w' := by
  have HW : Hid (∀ w, Calls Tryd.prog 29 #[.int .i64 2] w fun e w' => e = .returned (.tuple #[.string ⟨([119, 114, 105, 116, 101] : List UInt8).toArray⟩, .int .i64 3, .bool false]) ∧ w = w') := Lib.hid (word_any 2)
  have HNo := Lib.hid (fun r g w hc => none_any c r g w hc)
  have HAny := Lib.hid (fun W (hW : Below w.heap.size w W) g (hg : g < W.heap.size) hc => anyNone c g A l cap W hg hc hlen ((hL.below hW).more hW.size))
  have HK := Lib.hid (fun w => KnownK_any b w)
  clear hL
  obtain ⟨c0, c1, c2, c3, c4, c5, c6, c7, c8, c9, c10, c11⟩ := c
  unfold Cf.v
  dsimp only at *
  go_enter Tryd.func21, Tryd.ntmps21
  go_upto_region 1 with (fail)
  refine boxed2 ?_
  intro W0 hB1 hB2 hB3 hB4
  have k1 := conf_at hB1
  have k2 := instr_at hB2
  have hc6 := k1.2.2.2.2.2.2.1
  have hgl := hB1.lt
  have HB := Lib.hid hB3
  clear hB1 hB2 hB3
  go_wp2_with (first | (go_at_call 29; refine (HW.out _).mono ?_; rintro e w1 ⟨rfl, rfl⟩) | (go_at_call 28; refine (HNo.out _ _ _ hc6).mono ?_; rintro e w1 ⟨rfl, rfl⟩) | (go_at_call 18; refine (HK.out _).mono ?_; rintro e w1 ⟨rfl, rfl⟩) | (go_at_call 30; refine (HAny.out _ HB.out _ hgl hc6).mono ?_; rintro e w1 ⟨rfl, q, rfl⟩))
  go_ret
  first | exact ⟨rfl, HB.out⟩ | exact ⟨rfl, below_drewN HB.out _⟩

set_option maxHeartbeats 1000000 in
set_option maxRecDepth 100000 in
theorem may3_a (c : Cf) (a b ci : Int) (A : Option Addr) (l : List Int) (cap : Nat) (at_ many : Int) (w : World) (hL : Reads w w.heap.size 1 A l.length (l.map (Value.int .i64))) (hlen : l.length ≤ 1000) (hna : noneB c a = true) :
    Calls Tryd.prog 21 #[c.v, .agg #[.int .i64 3, .int .i64 a, .int .i64 b, .int .i64 ci, .slice A l.length cap], .int .i64 at_, .int .i64 many] w fun e w' => e = .returned (.bool (false)) ∧ Below w.heap.size w w' := by
  have HW : Hid (∀ w, Calls Tryd.prog 29 #[.int .i64 3] w fun e w' => e = .returned (.tuple #[.string ⟨([99, 111, 110, 115, 116] : List UInt8).toArray⟩, .int .i64 2, .bool false]) ∧ w = w') := Lib.hid (word_any 3)
  have HNo := Lib.hid (fun r g w hc => none_any c r g w hc)
  have HAny := Lib.hid (fun W (hW : Below w.heap.size w W) g (hg : g < W.heap.size) hc => anyNone c g A l cap W hg hc hlen ((hL.below hW).more hW.size))
  have HK := Lib.hid (fun w => KnownK_any b w)
  clear hL
  obtain ⟨c0, c1, c2, c3, c4, c5, c6, c7, c8, c9, c10, c11⟩ := c
  unfold Cf.v
  dsimp only at *
  go_enter Tryd.func21, Tryd.ntmps21
  go_upto_region 1 with (fail)
  refine boxed2 ?_
  intro W0 hB1 hB2 hB3 hB4
  have k1 := conf_at hB1
  have k2 := instr_at hB2
  have hc6 := k1.2.2.2.2.2.2.1
  have hgl := hB1.lt
  have HB := Lib.hid hB3
  clear hB1 hB2 hB3
  go_wp2_with (first | (go_at_call 29; refine (HW.out _).mono ?_; rintro e w1 ⟨rfl, rfl⟩) | (go_at_call 28; refine (HNo.out _ _ _ hc6).mono ?_; rintro e w1 ⟨rfl, rfl⟩) | (go_at_call 18; refine (HK.out _).mono ?_; rintro e w1 ⟨rfl, rfl⟩) | (go_at_call 30; refine (HAny.out _ HB.out _ hgl hc6).mono ?_; rintro e w1 ⟨rfl, q, rfl⟩))
  go_ret
  first | exact ⟨rfl, HB.out⟩ | exact ⟨rfl, below_drewN HB.out _⟩

set_option maxHeartbeats 1000000 in
set_option maxRecDepth 100000 in
theorem may3_l (c : Cf) (a b ci : Int) (A : Option Addr) (l : List Int) (cap : Nat) (at_ many : Int) (w : World) (hL : Reads w w.heap.size 1 A l.length (l.map (Value.int .i64))) (hlen : l.length ≤ 1000) (hna : noneB c a = false) (hl : 0 < l.length) :
    Calls Tryd.prog 21 #[c.v, .agg #[.int .i64 3, .int .i64 a, .int .i64 b, .int .i64 ci, .slice A l.length cap], .int .i64 at_, .int .i64 many] w fun e w' => e = .returned (.bool (false)) ∧ Below w.heap.size w w' := by
  have HW : Hid (∀ w, Calls Tryd.prog 29 #[.int .i64 3] w fun e w' => e = .returned (.tuple #[.string ⟨([99, 111, 110, 115, 116] : List UInt8).toArray⟩, .int .i64 2, .bool false]) ∧ w = w') := Lib.hid (word_any 3)
  have HNo := Lib.hid (fun r g w hc => none_any c r g w hc)
  have HAny := Lib.hid (fun W (hW : Below w.heap.size w W) g (hg : g < W.heap.size) hc => anyNone c g A l cap W hg hc hlen ((hL.below hW).more hW.size))
  have HK := Lib.hid (fun w => KnownK_any b w)
  clear hL
  obtain ⟨c0, c1, c2, c3, c4, c5, c6, c7, c8, c9, c10, c11⟩ := c
  unfold Cf.v
  dsimp only at *
  go_enter Tryd.func21, Tryd.ntmps21
  go_upto_region 1 with (fail)
  refine boxed2 ?_
  intro W0 hB1 hB2 hB3 hB4
  have k1 := conf_at hB1
  have k2 := instr_at hB2
  have hc6 := k1.2.2.2.2.2.2.1
  have hgl := hB1.lt
  have HB := Lib.hid hB3
  clear hB1 hB2 hB3
  go_wp2_with (first | (go_at_call 29; refine (HW.out _).mono ?_; rintro e w1 ⟨rfl, rfl⟩) | (go_at_call 28; refine (HNo.out _ _ _ hc6).mono ?_; rintro e w1 ⟨rfl, rfl⟩) | (go_at_call 18; refine (HK.out _).mono ?_; rintro e w1 ⟨rfl, rfl⟩) | (go_at_call 30; refine (HAny.out _ HB.out _ hgl hc6).mono ?_; rintro e w1 ⟨rfl, q, rfl⟩))
  go_ret
  first | exact ⟨rfl, HB.out⟩ | exact ⟨rfl, below_drewN HB.out _⟩

set_option maxHeartbeats 1000000 in
set_option maxRecDepth 100000 in
theorem may3_y (c : Cf) (a b ci : Int) (A : Option Addr) (l : List Int) (cap : Nat) (at_ many : Int) (w : World) (hL : Reads w w.heap.size 1 A l.length (l.map (Value.int .i64))) (hlen : l.length ≤ 1000) (hna : noneB c a = false) (hl : l.length = 0) :
    Calls Tryd.prog 21 #[c.v, .agg #[.int .i64 3, .int .i64 a, .int .i64 b, .int .i64 ci, .slice A l.length cap], .int .i64 at_, .int .i64 many] w fun e w' => e = .returned (.bool (true)) ∧ Below w.heap.size w w' := by
  have HW : Hid (∀ w, Calls Tryd.prog 29 #[.int .i64 3] w fun e w' => e = .returned (.tuple #[.string ⟨([99, 111, 110, 115, 116] : List UInt8).toArray⟩, .int .i64 2, .bool false]) ∧ w = w') := Lib.hid (word_any 3)
  have HNo := Lib.hid (fun r g w hc => none_any c r g w hc)
  have HAny := Lib.hid (fun W (hW : Below w.heap.size w W) g (hg : g < W.heap.size) hc => anyNone c g A l cap W hg hc hlen ((hL.below hW).more hW.size))
  have HK := Lib.hid (fun w => KnownK_any b w)
  clear hL
  obtain ⟨c0, c1, c2, c3, c4, c5, c6, c7, c8, c9, c10, c11⟩ := c
  unfold Cf.v
  dsimp only at *
  go_enter Tryd.func21, Tryd.ntmps21
  go_upto_region 1 with (fail)
  refine boxed2 ?_
  intro W0 hB1 hB2 hB3 hB4
  have k1 := conf_at hB1
  have k2 := instr_at hB2
  have hc6 := k1.2.2.2.2.2.2.1
  have hgl := hB1.lt
  have HB := Lib.hid hB3
  clear hB1 hB2 hB3
  go_wp2_with (first | (go_at_call 29; refine (HW.out _).mono ?_; rintro e w1 ⟨rfl, rfl⟩) | (go_at_call 28; refine (HNo.out _ _ _ hc6).mono ?_; rintro e w1 ⟨rfl, rfl⟩) | (go_at_call 18; refine (HK.out _).mono ?_; rintro e w1 ⟨rfl, rfl⟩) | (go_at_call 30; refine (HAny.out _ HB.out _ hgl hc6).mono ?_; rintro e w1 ⟨rfl, q, rfl⟩))
  go_ret
  first | exact ⟨rfl, HB.out⟩ | exact ⟨rfl, below_drewN HB.out _⟩

set_option maxHeartbeats 1000000 in
set_option maxRecDepth 100000 in
theorem may4_a (c : Cf) (a b ci : Int) (A : Option Addr) (l : List Int) (cap : Nat) (at_ many : Int) (w : World) (hL : Reads w w.heap.size 1 A l.length (l.map (Value.int .i64))) (hlen : l.length ≤ 1000) (hna : noneB c a = true) :
    Calls Tryd.prog 21 #[c.v, .agg #[.int .i64 4, .int .i64 a, .int .i64 b, .int .i64 ci, .slice A l.length cap], .int .i64 at_, .int .i64 many] w fun e w' => e = .returned (.bool (false)) ∧ Below w.heap.size w w' := by
  have HW : Hid (∀ w, Calls Tryd.prog 29 #[.int .i64 4] w fun e w' => e = .returned (.tuple #[.string ⟨([99, 97, 108, 99] : List UInt8).toArray⟩, .int .i64 2, .bool true]) ∧ w = w') := Lib.hid (word_any 4)
  have HNo := Lib.hid (fun r g w hc => none_any c r g w hc)
  have HAny := Lib.hid (fun W (hW : Below w.heap.size w W) g (hg : g < W.heap.size) hc => anyNone c g A l cap W hg hc hlen ((hL.below hW).more hW.size))
  have HK := Lib.hid (fun w => KnownK_any b w)
  clear hL
  obtain ⟨c0, c1, c2, c3, c4, c5, c6, c7, c8, c9, c10, c11⟩ := c
  unfold Cf.v
  dsimp only at *
  go_enter Tryd.func21, Tryd.ntmps21
  go_upto_region 1 with (fail)
  refine boxed2 ?_
  intro W0 hB1 hB2 hB3 hB4
  have k1 := conf_at hB1
  have k2 := instr_at hB2
  have hc6 := k1.2.2.2.2.2.2.1
  have hgl := hB1.lt
  have HB := Lib.hid hB3
  clear hB1 hB2 hB3
  go_wp2_with (first | (go_at_call 29; refine (HW.out _).mono ?_; rintro e w1 ⟨rfl, rfl⟩) | (go_at_call 28; refine (HNo.out _ _ _ hc6).mono ?_; rintro e w1 ⟨rfl, rfl⟩) | (go_at_call 18; refine (HK.out _).mono ?_; rintro e w1 ⟨rfl, rfl⟩) | (go_at_call 30; refine (HAny.out _ HB.out _ hgl hc6).mono ?_; rintro e w1 ⟨rfl, q, rfl⟩))
  go_ret
  first | exact ⟨rfl, HB.out⟩ | exact ⟨rfl, below_drewN HB.out _⟩

set_option maxHeartbeats 1000000 in
set_option maxRecDepth 100000 in
theorem may4_b (c : Cf) (a b ci : Int) (A : Option Addr) (l : List Int) (cap : Nat) (at_ many : Int) (w : World) (hL : Reads w w.heap.size 1 A l.length (l.map (Value.int .i64))) (hlen : l.length ≤ 1000) (hna : noneB c a = false) (hk : knownK b = false) :
    Calls Tryd.prog 21 #[c.v, .agg #[.int .i64 4, .int .i64 a, .int .i64 b, .int .i64 ci, .slice A l.length cap], .int .i64 at_, .int .i64 many] w fun e w' => e = .returned (.bool (false)) ∧ Below w.heap.size w w' := by
  have HW : Hid (∀ w, Calls Tryd.prog 29 #[.int .i64 4] w fun e w' => e = .returned (.tuple #[.string ⟨([99, 97, 108, 99] : List UInt8).toArray⟩, .int .i64 2, .bool true]) ∧ w = w') := Lib.hid (word_any 4)
  have HNo := Lib.hid (fun r g w hc => none_any c r g w hc)
  have HAny := Lib.hid (fun W (hW : Below w.heap.size w W) g (hg : g < W.heap.size) hc => anyNone c g A l cap W hg hc hlen ((hL.below hW).more hW.size))
  have HK := Lib.hid (fun w => KnownK_any b w)
  clear hL
  obtain ⟨c0, c1, c2, c3, c4, c5, c6, c7, c8, c9, c10, c11⟩ := c
  unfold Cf.v
  dsimp only at *
  go_enter Tryd.func21, Tryd.ntmps21
  go_upto_region 1 with (fail)
  refine boxed2 ?_
  intro W0 hB1 hB2 hB3 hB4
  have k1 := conf_at hB1
  have k2 := instr_at hB2
  have hc6 := k1.2.2.2.2.2.2.1
  have hgl := hB1.lt
  have HB := Lib.hid hB3
  clear hB1 hB2 hB3
  go_wp2_with (first | (go_at_call 29; refine (HW.out _).mono ?_; rintro e w1 ⟨rfl, rfl⟩) | (go_at_call 28; refine (HNo.out _ _ _ hc6).mono ?_; rintro e w1 ⟨rfl, rfl⟩) | (go_at_call 18; refine (HK.out _).mono ?_; rintro e w1 ⟨rfl, rfl⟩) | (go_at_call 30; refine (HAny.out _ HB.out _ hgl hc6).mono ?_; rintro e w1 ⟨rfl, q, rfl⟩))
  go_ret
  first | exact ⟨rfl, HB.out⟩ | exact ⟨rfl, below_drewN HB.out _⟩

set_option maxHeartbeats 1000000 in
set_option maxRecDepth 100000 in
theorem may4_0 (c : Cf) (a b ci : Int) (A : Option Addr) (l : List Int) (cap : Nat) (at_ many : Int) (w : World) (hL : Reads w w.heap.size 1 A l.length (l.map (Value.int .i64))) (hlen : l.length ≤ 1000) (hna : noneB c a = false) (hk : knownK b = true) (hl : l.length = 0) :
    Calls Tryd.prog 21 #[c.v, .agg #[.int .i64 4, .int .i64 a, .int .i64 b, .int .i64 ci, .slice A l.length cap], .int .i64 at_, .int .i64 many] w fun e w' => e = .returned (.bool (false)) ∧ Below w.heap.size w w' := by
  have HW : Hid (∀ w, Calls Tryd.prog 29 #[.int .i64 4] w fun e w' => e = .returned (.tuple #[.string ⟨([99, 97, 108, 99] : List UInt8).toArray⟩, .int .i64 2, .bool true]) ∧ w = w') := Lib.hid (word_any 4)
  have HNo := Lib.hid (fun r g w hc => none_any c r g w hc)
  have HAny := Lib.hid (fun W (hW : Below w.heap.size w W) g (hg : g < W.heap.size) hc => anyNone c g A l cap W hg hc hlen ((hL.below hW).more hW.size))
  have HK := Lib.hid (fun w => KnownK_any b w)
  clear hL
  obtain ⟨c0, c1, c2, c3, c4, c5, c6, c7, c8, c9, c10, c11⟩ := c
  unfold Cf.v
  dsimp only at *
  go_enter Tryd.func21, Tryd.ntmps21
  go_upto_region 1 with (fail)
  refine boxed2 ?_
  intro W0 hB1 hB2 hB3 hB4
  have k1 := conf_at hB1
  have k2 := instr_at hB2
  have hc6 := k1.2.2.2.2.2.2.1
  have hgl := hB1.lt
  have HB := Lib.hid hB3
  clear hB1 hB2 hB3
  go_wp2_with (first | (go_at_call 29; refine (HW.out _).mono ?_; rintro e w1 ⟨rfl, rfl⟩) | (go_at_call 28; refine (HNo.out _ _ _ hc6).mono ?_; rintro e w1 ⟨rfl, rfl⟩) | (go_at_call 18; refine (HK.out _).mono ?_; rintro e w1 ⟨rfl, rfl⟩) | (go_at_call 30; refine (HAny.out _ HB.out _ hgl hc6).mono ?_; rintro e w1 ⟨rfl, q, rfl⟩))
  go_ret
  first | exact ⟨rfl, HB.out⟩ | exact ⟨rfl, below_drewN HB.out _⟩

set_option maxHeartbeats 1000000 in
set_option maxRecDepth 100000 in
theorem may4_8 (c : Cf) (a b ci : Int) (A : Option Addr) (l : List Int) (cap : Nat) (at_ many : Int) (w : World) (hL : Reads w w.heap.size 1 A l.length (l.map (Value.int .i64))) (hlen : l.length ≤ 1000) (hna : noneB c a = false) (hk : knownK b = true) (hl : 8 < l.length) :
    Calls Tryd.prog 21 #[c.v, .agg #[.int .i64 4, .int .i64 a, .int .i64 b, .int .i64 ci, .slice A l.length cap], .int .i64 at_, .int .i64 many] w fun e w' => e = .returned (.bool (false)) ∧ Below w.heap.size w w' := by
  have HW : Hid (∀ w, Calls Tryd.prog 29 #[.int .i64 4] w fun e w' => e = .returned (.tuple #[.string ⟨([99, 97, 108, 99] : List UInt8).toArray⟩, .int .i64 2, .bool true]) ∧ w = w') := Lib.hid (word_any 4)
  have HNo := Lib.hid (fun r g w hc => none_any c r g w hc)
  have HAny := Lib.hid (fun W (hW : Below w.heap.size w W) g (hg : g < W.heap.size) hc => anyNone c g A l cap W hg hc hlen ((hL.below hW).more hW.size))
  have HK := Lib.hid (fun w => KnownK_any b w)
  clear hL
  obtain ⟨c0, c1, c2, c3, c4, c5, c6, c7, c8, c9, c10, c11⟩ := c
  unfold Cf.v
  dsimp only at *
  go_enter Tryd.func21, Tryd.ntmps21
  go_upto_region 1 with (fail)
  refine boxed2 ?_
  intro W0 hB1 hB2 hB3 hB4
  have k1 := conf_at hB1
  have k2 := instr_at hB2
  have hc6 := k1.2.2.2.2.2.2.1
  have hgl := hB1.lt
  have HB := Lib.hid hB3
  clear hB1 hB2 hB3
  go_wp2_with (first | (go_at_call 29; refine (HW.out _).mono ?_; rintro e w1 ⟨rfl, rfl⟩) | (go_at_call 28; refine (HNo.out _ _ _ hc6).mono ?_; rintro e w1 ⟨rfl, rfl⟩) | (go_at_call 18; refine (HK.out _).mono ?_; rintro e w1 ⟨rfl, rfl⟩) | (go_at_call 30; refine (HAny.out _ HB.out _ hgl hc6).mono ?_; rintro e w1 ⟨rfl, q, rfl⟩))
  go_ret
  first | exact ⟨rfl, HB.out⟩ | exact ⟨rfl, below_drewN HB.out _⟩

set_option maxHeartbeats 1000000 in
set_option maxRecDepth 100000 in
theorem may4_y (c : Cf) (a b ci : Int) (A : Option Addr) (l : List Int) (cap : Nat) (at_ many : Int) (w : World) (hL : Reads w w.heap.size 1 A l.length (l.map (Value.int .i64))) (hlen : l.length ≤ 1000) (hna : noneB c a = false) (hk : knownK b = true) (hl : 0 < l.length) (hl8 : l.length ≤ 8) :
    Calls Tryd.prog 21 #[c.v, .agg #[.int .i64 4, .int .i64 a, .int .i64 b, .int .i64 ci, .slice A l.length cap], .int .i64 at_, .int .i64 many] w fun e w' => e = .returned (.bool (!l.any (noneB c))) ∧ Below w.heap.size w w' := by
  have HW : Hid (∀ w, Calls Tryd.prog 29 #[.int .i64 4] w fun e w' => e = .returned (.tuple #[.string ⟨([99, 97, 108, 99] : List UInt8).toArray⟩, .int .i64 2, .bool true]) ∧ w = w') := Lib.hid (word_any 4)
  have HNo := Lib.hid (fun r g w hc => none_any c r g w hc)
  have HAny := Lib.hid (fun W (hW : Below w.heap.size w W) g (hg : g < W.heap.size) hc => anyNone c g A l cap W hg hc hlen ((hL.below hW).more hW.size))
  have HK := Lib.hid (fun w => KnownK_any b w)
  clear hL
  obtain ⟨c0, c1, c2, c3, c4, c5, c6, c7, c8, c9, c10, c11⟩ := c
  unfold Cf.v
  dsimp only at *
  go_enter Tryd.func21, Tryd.ntmps21
  go_upto_region 1 with (fail)
  refine boxed2 ?_
  intro W0 hB1 hB2 hB3 hB4
  have k1 := conf_at hB1
  have k2 := instr_at hB2
  have hc6 := k1.2.2.2.2.2.2.1
  have hgl := hB1.lt
  have HB := Lib.hid hB3
  clear hB1 hB2 hB3
  go_wp2_with (first | (go_at_call 29; refine (HW.out _).mono ?_; rintro e w1 ⟨rfl, rfl⟩) | (go_at_call 28; refine (HNo.out _ _ _ hc6).mono ?_; rintro e w1 ⟨rfl, rfl⟩) | (go_at_call 18; refine (HK.out _).mono ?_; rintro e w1 ⟨rfl, rfl⟩) | (go_at_call 30; refine (HAny.out _ HB.out _ hgl hc6).mono ?_; rintro e w1 ⟨rfl, q, rfl⟩))
  go_ret
  first | exact ⟨rfl, HB.out⟩ | exact ⟨rfl, below_drewN HB.out _⟩

set_option maxHeartbeats 1000000 in
set_option maxRecDepth 100000 in
theorem may5_a (c : Cf) (a b ci : Int) (A : Option Addr) (l : List Int) (cap : Nat) (at_ many : Int) (w : World) (hL : Reads w w.heap.size 1 A l.length (l.map (Value.int .i64))) (hlen : l.length ≤ 1000) (hna : noneB c a = true) :
    Calls Tryd.prog 21 #[c.v, .agg #[.int .i64 5, .int .i64 a, .int .i64 b, .int .i64 ci, .slice A l.length cap], .int .i64 at_, .int .i64 many] w fun e w' => e = .returned (.bool (false)) ∧ Below w.heap.size w w' := by
  have HW : Hid (∀ w, Calls Tryd.prog 29 #[.int .i64 5] w fun e w' => e = .returned (.tuple #[.string ⟨([106, 117, 109, 112] : List UInt8).toArray⟩, .int .i64 2, .bool false]) ∧ w = w') := Lib.hid (word_any 5)
  have HNo := Lib.hid (fun r g w hc => none_any c r g w hc)
  have HAny := Lib.hid (fun W (hW : Below w.heap.size w W) g (hg : g < W.heap.size) hc => anyNone c g A l cap W hg hc hlen ((hL.below hW).more hW.size))
  have HK := Lib.hid (fun w => KnownK_any b w)
  clear hL
  obtain ⟨c0, c1, c2, c3, c4, c5, c6, c7, c8, c9, c10, c11⟩ := c
  unfold Cf.v
  dsimp only at *
  go_enter Tryd.func21, Tryd.ntmps21
  go_upto_region 1 with (fail)
  refine boxed2 ?_
  intro W0 hB1 hB2 hB3 hB4
  have k1 := conf_at hB1
  have k2 := instr_at hB2
  have hc6 := k1.2.2.2.2.2.2.1
  have hgl := hB1.lt
  have HB := Lib.hid hB3
  clear hB1 hB2 hB3
  go_wp2_with (first | (go_at_call 29; refine (HW.out _).mono ?_; rintro e w1 ⟨rfl, rfl⟩) | (go_at_call 28; refine (HNo.out _ _ _ hc6).mono ?_; rintro e w1 ⟨rfl, rfl⟩) | (go_at_call 18; refine (HK.out _).mono ?_; rintro e w1 ⟨rfl, rfl⟩) | (go_at_call 30; refine (HAny.out _ HB.out _ hgl hc6).mono ?_; rintro e w1 ⟨rfl, q, rfl⟩))
  go_ret
  first | exact ⟨rfl, HB.out⟩ | exact ⟨rfl, below_drewN HB.out _⟩

set_option maxHeartbeats 1000000 in
set_option maxRecDepth 100000 in
theorem may5_l (c : Cf) (a b ci : Int) (A : Option Addr) (l : List Int) (cap : Nat) (at_ many : Int) (w : World) (hL : Reads w w.heap.size 1 A l.length (l.map (Value.int .i64))) (hlen : l.length ≤ 1000) (hna : noneB c a = false) (hl : 0 < l.length) :
    Calls Tryd.prog 21 #[c.v, .agg #[.int .i64 5, .int .i64 a, .int .i64 b, .int .i64 ci, .slice A l.length cap], .int .i64 at_, .int .i64 many] w fun e w' => e = .returned (.bool (false)) ∧ Below w.heap.size w w' := by
  have HW : Hid (∀ w, Calls Tryd.prog 29 #[.int .i64 5] w fun e w' => e = .returned (.tuple #[.string ⟨([106, 117, 109, 112] : List UInt8).toArray⟩, .int .i64 2, .bool false]) ∧ w = w') := Lib.hid (word_any 5)
  have HNo := Lib.hid (fun r g w hc => none_any c r g w hc)
  have HAny := Lib.hid (fun W (hW : Below w.heap.size w W) g (hg : g < W.heap.size) hc => anyNone c g A l cap W hg hc hlen ((hL.below hW).more hW.size))
  have HK := Lib.hid (fun w => KnownK_any b w)
  clear hL
  obtain ⟨c0, c1, c2, c3, c4, c5, c6, c7, c8, c9, c10, c11⟩ := c
  unfold Cf.v
  dsimp only at *
  go_enter Tryd.func21, Tryd.ntmps21
  go_upto_region 1 with (fail)
  refine boxed2 ?_
  intro W0 hB1 hB2 hB3 hB4
  have k1 := conf_at hB1
  have k2 := instr_at hB2
  have hc6 := k1.2.2.2.2.2.2.1
  have hgl := hB1.lt
  have HB := Lib.hid hB3
  clear hB1 hB2 hB3
  go_wp2_with (first | (go_at_call 29; refine (HW.out _).mono ?_; rintro e w1 ⟨rfl, rfl⟩) | (go_at_call 28; refine (HNo.out _ _ _ hc6).mono ?_; rintro e w1 ⟨rfl, rfl⟩) | (go_at_call 18; refine (HK.out _).mono ?_; rintro e w1 ⟨rfl, rfl⟩) | (go_at_call 30; refine (HAny.out _ HB.out _ hgl hc6).mono ?_; rintro e w1 ⟨rfl, q, rfl⟩))
  go_ret
  first | exact ⟨rfl, HB.out⟩ | exact ⟨rfl, below_drewN HB.out _⟩

set_option maxHeartbeats 1000000 in
set_option maxRecDepth 100000 in
theorem may5_n (c : Cf) (a b ci : Int) (A : Option Addr) (l : List Int) (cap : Nat) (at_ many : Int) (w : World) (hL : Reads w w.heap.size 1 A l.length (l.map (Value.int .i64))) (hlen : l.length ≤ 1000) (hna : noneB c a = false) (hl : l.length = 0) (hb : ¬ at_ < b) :
    Calls Tryd.prog 21 #[c.v, .agg #[.int .i64 5, .int .i64 a, .int .i64 b, .int .i64 ci, .slice A l.length cap], .int .i64 at_, .int .i64 many] w fun e w' => e = .returned (.bool (false)) ∧ Below w.heap.size w w' := by
  have HW : Hid (∀ w, Calls Tryd.prog 29 #[.int .i64 5] w fun e w' => e = .returned (.tuple #[.string ⟨([106, 117, 109, 112] : List UInt8).toArray⟩, .int .i64 2, .bool false]) ∧ w = w') := Lib.hid (word_any 5)
  have HNo := Lib.hid (fun r g w hc => none_any c r g w hc)
  have HAny := Lib.hid (fun W (hW : Below w.heap.size w W) g (hg : g < W.heap.size) hc => anyNone c g A l cap W hg hc hlen ((hL.below hW).more hW.size))
  have HK := Lib.hid (fun w => KnownK_any b w)
  clear hL
  obtain ⟨c0, c1, c2, c3, c4, c5, c6, c7, c8, c9, c10, c11⟩ := c
  unfold Cf.v
  dsimp only at *
  go_enter Tryd.func21, Tryd.ntmps21
  go_upto_region 1 with (fail)
  refine boxed2 ?_
  intro W0 hB1 hB2 hB3 hB4
  have k1 := conf_at hB1
  have k2 := instr_at hB2
  have hc6 := k1.2.2.2.2.2.2.1
  have hgl := hB1.lt
  have HB := Lib.hid hB3
  clear hB1 hB2 hB3
  go_wp2_with (first | (go_at_call 29; refine (HW.out _).mono ?_; rintro e w1 ⟨rfl, rfl⟩) | (go_at_call 28; refine (HNo.out _ _ _ hc6).mono ?_; rintro e w1 ⟨rfl, rfl⟩) | (go_at_call 18; refine (HK.out _).mono ?_; rintro e w1 ⟨rfl, rfl⟩) | (go_at_call 30; refine (HAny.out _ HB.out _ hgl hc6).mono ?_; rintro e w1 ⟨rfl, q, rfl⟩))
  go_ret
  first | exact ⟨rfl, HB.out⟩ | exact ⟨rfl, below_drewN HB.out _⟩

set_option maxHeartbeats 1000000 in
set_option maxRecDepth 100000 in
theorem may5_y (c : Cf) (a b ci : Int) (A : Option Addr) (l : List Int) (cap : Nat) (at_ many : Int) (w : World) (hL : Reads w w.heap.size 1 A l.length (l.map (Value.int .i64))) (hlen : l.length ≤ 1000) (hna : noneB c a = false) (hl : l.length = 0) (hb : at_ < b) :
    Calls Tryd.prog 21 #[c.v, .agg #[.int .i64 5, .int .i64 a, .int .i64 b, .int .i64 ci, .slice A l.length cap], .int .i64 at_, .int .i64 many] w fun e w' => e = .returned (.bool (decide (b ≤ many))) ∧ Below w.heap.size w w' := by
  have HW : Hid (∀ w, Calls Tryd.prog 29 #[.int .i64 5] w fun e w' => e = .returned (.tuple #[.string ⟨([106, 117, 109, 112] : List UInt8).toArray⟩, .int .i64 2, .bool false]) ∧ w = w') := Lib.hid (word_any 5)
  have HNo := Lib.hid (fun r g w hc => none_any c r g w hc)
  have HAny := Lib.hid (fun W (hW : Below w.heap.size w W) g (hg : g < W.heap.size) hc => anyNone c g A l cap W hg hc hlen ((hL.below hW).more hW.size))
  have HK := Lib.hid (fun w => KnownK_any b w)
  clear hL
  obtain ⟨c0, c1, c2, c3, c4, c5, c6, c7, c8, c9, c10, c11⟩ := c
  unfold Cf.v
  dsimp only at *
  go_enter Tryd.func21, Tryd.ntmps21
  go_upto_region 1 with (fail)
  refine boxed2 ?_
  intro W0 hB1 hB2 hB3 hB4
  have k1 := conf_at hB1
  have k2 := instr_at hB2
  have hc6 := k1.2.2.2.2.2.2.1
  have hgl := hB1.lt
  have HB := Lib.hid hB3
  clear hB1 hB2 hB3
  go_wp2_with (first | (go_at_call 29; refine (HW.out _).mono ?_; rintro e w1 ⟨rfl, rfl⟩) | (go_at_call 28; refine (HNo.out _ _ _ hc6).mono ?_; rintro e w1 ⟨rfl, rfl⟩) | (go_at_call 18; refine (HK.out _).mono ?_; rintro e w1 ⟨rfl, rfl⟩) | (go_at_call 30; refine (HAny.out _ HB.out _ hgl hc6).mono ?_; rintro e w1 ⟨rfl, q, rfl⟩))
  go_ret
  first | exact ⟨rfl, HB.out⟩ | exact ⟨rfl, below_drewN HB.out _⟩

set_option maxHeartbeats 1000000 in
set_option maxRecDepth 100000 in
theorem may6_l (c : Cf) (a b ci : Int) (A : Option Addr) (l : List Int) (cap : Nat) (at_ many : Int) (w : World) (hL : Reads w w.heap.size 1 A l.length (l.map (Value.int .i64))) (hlen : l.length ≤ 1000) (hl : 0 < l.length) :
    Calls Tryd.prog 21 #[c.v, .agg #[.int .i64 6, .int .i64 a, .int .i64 b, .int .i64 ci, .slice A l.length cap], .int .i64 at_, .int .i64 many] w fun e w' => e = .returned (.bool (false)) ∧ Below w.heap.size w w' := by
  have HW : Hid (∀ w, Calls Tryd.prog 29 #[.int .i64 6] w fun e w' => e = .returned (.tuple #[.string ⟨([114, 101, 116, 114, 121] : List UInt8).toArray⟩, .int .i64 0, .bool false]) ∧ w = w') := Lib.hid (word_any 6)
  have HNo := Lib.hid (fun r g w hc => none_any c r g w hc)
  have HAny := Lib.hid (fun W (hW : Below w.heap.size w W) g (hg : g < W.heap.size) hc => anyNone c g A l cap W hg hc hlen ((hL.below hW).more hW.size))
  have HK := Lib.hid (fun w => KnownK_any b w)
  clear hL
  obtain ⟨c0, c1, c2, c3, c4, c5, c6, c7, c8, c9, c10, c11⟩ := c
  unfold Cf.v
  dsimp only at *
  go_enter Tryd.func21, Tryd.ntmps21
  go_upto_region 1 with (fail)
  refine boxed2 ?_
  intro W0 hB1 hB2 hB3 hB4
  have k1 := conf_at hB1
  have k2 := instr_at hB2
  have hc6 := k1.2.2.2.2.2.2.1
  have hgl := hB1.lt
  have HB := Lib.hid hB3
  clear hB1 hB2 hB3
  go_wp2_with (first | (go_at_call 29; refine (HW.out _).mono ?_; rintro e w1 ⟨rfl, rfl⟩) | (go_at_call 28; refine (HNo.out _ _ _ hc6).mono ?_; rintro e w1 ⟨rfl, rfl⟩) | (go_at_call 18; refine (HK.out _).mono ?_; rintro e w1 ⟨rfl, rfl⟩) | (go_at_call 30; refine (HAny.out _ HB.out _ hgl hc6).mono ?_; rintro e w1 ⟨rfl, q, rfl⟩))
  go_ret
  first | exact ⟨rfl, HB.out⟩ | exact ⟨rfl, below_drewN HB.out _⟩

set_option maxHeartbeats 1000000 in
set_option maxRecDepth 100000 in
theorem may6_y (c : Cf) (a b ci : Int) (A : Option Addr) (l : List Int) (cap : Nat) (at_ many : Int) (w : World) (hL : Reads w w.heap.size 1 A l.length (l.map (Value.int .i64))) (hlen : l.length ≤ 1000) (hl : l.length = 0) :
    Calls Tryd.prog 21 #[c.v, .agg #[.int .i64 6, .int .i64 a, .int .i64 b, .int .i64 ci, .slice A l.length cap], .int .i64 at_, .int .i64 many] w fun e w' => e = .returned (.bool (true)) ∧ Below w.heap.size w w' := by
  have HW : Hid (∀ w, Calls Tryd.prog 29 #[.int .i64 6] w fun e w' => e = .returned (.tuple #[.string ⟨([114, 101, 116, 114, 121] : List UInt8).toArray⟩, .int .i64 0, .bool false]) ∧ w = w') := Lib.hid (word_any 6)
  have HNo := Lib.hid (fun r g w hc => none_any c r g w hc)
  have HAny := Lib.hid (fun W (hW : Below w.heap.size w W) g (hg : g < W.heap.size) hc => anyNone c g A l cap W hg hc hlen ((hL.below hW).more hW.size))
  have HK := Lib.hid (fun w => KnownK_any b w)
  clear hL
  obtain ⟨c0, c1, c2, c3, c4, c5, c6, c7, c8, c9, c10, c11⟩ := c
  unfold Cf.v
  dsimp only at *
  go_enter Tryd.func21, Tryd.ntmps21
  go_upto_region 1 with (fail)
  refine boxed2 ?_
  intro W0 hB1 hB2 hB3 hB4
  have k1 := conf_at hB1
  have k2 := instr_at hB2
  have hc6 := k1.2.2.2.2.2.2.1
  have hgl := hB1.lt
  have HB := Lib.hid hB3
  clear hB1 hB2 hB3
  go_wp2_with (first | (go_at_call 29; refine (HW.out _).mono ?_; rintro e w1 ⟨rfl, rfl⟩) | (go_at_call 28; refine (HNo.out _ _ _ hc6).mono ?_; rintro e w1 ⟨rfl, rfl⟩) | (go_at_call 18; refine (HK.out _).mono ?_; rintro e w1 ⟨rfl, rfl⟩) | (go_at_call 30; refine (HAny.out _ HB.out _ hgl hc6).mono ?_; rintro e w1 ⟨rfl, q, rfl⟩))
  go_ret
  first | exact ⟨rfl, HB.out⟩ | exact ⟨rfl, below_drewN HB.out _⟩

set_option maxHeartbeats 1000000 in
set_option maxRecDepth 100000 in
theorem may7_l (c : Cf) (a b ci : Int) (A : Option Addr) (l : List Int) (cap : Nat) (at_ many : Int) (w : World) (hL : Reads w w.heap.size 1 A l.length (l.map (Value.int .i64))) (hlen : l.length ≤ 1000) (hl : 0 < l.length) :
    Calls Tryd.prog 21 #[c.v, .agg #[.int .i64 7, .int .i64 a, .int .i64 b, .int .i64 ci, .slice A l.length cap], .int .i64 at_, .int .i64 many] w fun e w' => e = .returned (.bool (false)) ∧ Below w.heap.size w w' := by
  have HW : Hid (∀ w, Calls Tryd.prog 29 #[.int .i64 7] w fun e w' => e = .returned (.tuple #[.string ⟨([97, 98, 111, 114, 116] : List UInt8).toArray⟩, .int .i64 0, .bool false]) ∧ w = w') := Lib.hid (word_any 7)
  have HNo := Lib.hid (fun r g w hc => none_any c r g w hc)
  have HAny := Lib.hid (fun W (hW : Below w.heap.size w W) g (hg : g < W.heap.size) hc => anyNone c g A l cap W hg hc hlen ((hL.below hW).more hW.size))
  have HK := Lib.hid (fun w => KnownK_any b w)
  clear hL
  obtain ⟨c0, c1, c2, c3, c4, c5, c6, c7, c8, c9, c10, c11⟩ := c
  unfold Cf.v
  dsimp only at *
  go_enter Tryd.func21, Tryd.ntmps21
  go_upto_region 1 with (fail)
  refine boxed2 ?_
  intro W0 hB1 hB2 hB3 hB4
  have k1 := conf_at hB1
  have k2 := instr_at hB2
  have hc6 := k1.2.2.2.2.2.2.1
  have hgl := hB1.lt
  have HB := Lib.hid hB3
  clear hB1 hB2 hB3
  go_wp2_with (first | (go_at_call 29; refine (HW.out _).mono ?_; rintro e w1 ⟨rfl, rfl⟩) | (go_at_call 28; refine (HNo.out _ _ _ hc6).mono ?_; rintro e w1 ⟨rfl, rfl⟩) | (go_at_call 18; refine (HK.out _).mono ?_; rintro e w1 ⟨rfl, rfl⟩) | (go_at_call 30; refine (HAny.out _ HB.out _ hgl hc6).mono ?_; rintro e w1 ⟨rfl, q, rfl⟩))
  go_ret
  first | exact ⟨rfl, HB.out⟩ | exact ⟨rfl, below_drewN HB.out _⟩

set_option maxHeartbeats 1000000 in
set_option maxRecDepth 100000 in
theorem may7_y (c : Cf) (a b ci : Int) (A : Option Addr) (l : List Int) (cap : Nat) (at_ many : Int) (w : World) (hL : Reads w w.heap.size 1 A l.length (l.map (Value.int .i64))) (hlen : l.length ≤ 1000) (hl : l.length = 0) :
    Calls Tryd.prog 21 #[c.v, .agg #[.int .i64 7, .int .i64 a, .int .i64 b, .int .i64 ci, .slice A l.length cap], .int .i64 at_, .int .i64 many] w fun e w' => e = .returned (.bool (true)) ∧ Below w.heap.size w w' := by
  have HW : Hid (∀ w, Calls Tryd.prog 29 #[.int .i64 7] w fun e w' => e = .returned (.tuple #[.string ⟨([97, 98, 111, 114, 116] : List UInt8).toArray⟩, .int .i64 0, .bool false]) ∧ w = w') := Lib.hid (word_any 7)
  have HNo := Lib.hid (fun r g w hc => none_any c r g w hc)
  have HAny := Lib.hid (fun W (hW : Below w.heap.size w W) g (hg : g < W.heap.size) hc => anyNone c g A l cap W hg hc hlen ((hL.below hW).more hW.size))
  have HK := Lib.hid (fun w => KnownK_any b w)
  clear hL
  obtain ⟨c0, c1, c2, c3, c4, c5, c6, c7, c8, c9, c10, c11⟩ := c
  unfold Cf.v
  dsimp only at *
  go_enter Tryd.func21, Tryd.ntmps21
  go_upto_region 1 with (fail)
  refine boxed2 ?_
  intro W0 hB1 hB2 hB3 hB4
  have k1 := conf_at hB1
  have k2 := instr_at hB2
  have hc6 := k1.2.2.2.2.2.2.1
  have hgl := hB1.lt
  have HB := Lib.hid hB3
  clear hB1 hB2 hB3
  go_wp2_with (first | (go_at_call 29; refine (HW.out _).mono ?_; rintro e w1 ⟨rfl, rfl⟩) | (go_at_call 28; refine (HNo.out _ _ _ hc6).mono ?_; rintro e w1 ⟨rfl, rfl⟩) | (go_at_call 18; refine (HK.out _).mono ?_; rintro e w1 ⟨rfl, rfl⟩) | (go_at_call 30; refine (HAny.out _ HB.out _ hgl hc6).mono ?_; rintro e w1 ⟨rfl, q, rfl⟩))
  go_ret
  first | exact ⟨rfl, HB.out⟩ | exact ⟨rfl, below_drewN HB.out _⟩
end Go.Proofs.YthkffcnifhcjoaaDoor
