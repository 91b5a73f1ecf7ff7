/- ltklaw6.ProgOdd returns true, whatever its arguments. -/
import Derived.Test.YthkffcnifhcjoaaDoorFirst
set_option linter.unusedSimpArgs false
set_option linter.unusedVariables false
namespace Go.Proofs.YthkffcnifhcjoaaDoor
open Go.RowKit Go.Sort

def insO (i : Nat) : In := ⟨3, (i : Int) % 4, i, 0, []⟩
def p0 (n : Nat) : List In := (List.range n).map insO
theorem p0_len (n : Nat) : (p0 n).length = n := by simp [p0]
theorem p0_succ (n : Nat) : p0 (n + 1) = p0 n ++ [insO n] := by simp [p0, List.range_succ]
theorem small_ok : smallC.ok = true := by kernel_rfl
theorem may_insO (i : Nat) (j many : Int) : mayB smallC (insO i) j many = true := by
  have h : (i : Int) % 4 = 0 ∨ (i : Int) % 4 = 1 ∨ (i : Int) % 4 = 2 ∨ (i : Int) % 4 = 3 := by omega
  unfold insO
  rcases h with h | h | h | h <;> rw [h] <;> rfl
theorem chk_p0 (n : Nat) (h : n ≤ 60) : chkP smallC (p0 n) = 0 := by
  refine chkP_yes _ _ small_ok (by rw [p0_len]; exact h) (fun j hj x hx => ?_)
  unfold p0 at hx
  rw [List.getElem?_map] at hx
  obtain ⟨i, _, rfl⟩ := Option.map_eq_some_iff.1 hx
  exact may_insO _ _ _
theorem set_get (n k : Nat) (x y : In) (j : Nat) (h : ((p0 n).set k x)[j]? = some y) : (j = k ∧ y = x) ∨ ∃ i, y = insO i := by
  rw [List.getElem?_set] at h
  split at h
  · rename_i e
    split at h
    · exact .inl ⟨e.symm, by injection h with h; exact h.symm⟩
    · cases h
  · unfold p0 at h
    rw [List.getElem?_map] at h
    obtain ⟨i, _, rfl⟩ := Option.map_eq_some_iff.1 h
    exact .inr ⟨i, rfl⟩
theorem chk_set_yes (n k : Nat) (x : In) (h : n ≤ 60) (hx : mayB smallC x k n = true) : chkP smallC ((p0 n).set k x) = 0 := by
  refine chkP_yes _ _ small_ok (by rw [List.length_set, p0_len]; exact h) (fun j hj y hy => ?_)
  rcases set_get n k x y j hy with ⟨rfl, rfl⟩ | ⟨i, rfl⟩
  · rw [List.length_set, p0_len]; exact hx
  · exact may_insO _ _ _
theorem chk_set_no (n k : Nat) (x : In) (hk : k < n) (hx : mayB smallC x k n = false) : chkP smallC ((p0 n).set k x) = 2 := by
  refine chkP_no _ _ k x ?_ (by rw [List.length_set, p0_len]; exact hx)
  rw [List.getElem?_set, if_pos rfl, if_pos (by rw [p0_len]; exact hk)]
theorem may_jump (b : Int) (k n : Nat) : mayB smallC ⟨5, 3, b, 0, []⟩ k n = (decide ((k : Int) < b) && decide (b ≤ n)) := rfl
theorem may_read (k n : Nat) : mayB smallC ⟨1, 4, 0, -1, []⟩ k n = false := rfl
theorem may_calc (k n : Nat) : mayB smallC ⟨4, 0, 9, 0, [1]⟩ k n = false := rfl
theorem may_retry (k n : Nat) : mayB smallC ⟨6, 0, 0, 0, [1]⟩ k n = false := rfl
theorem may_abort (b : Int) (k n : Nat) : mayB smallC ⟨7, -9, b, 77, []⟩ k n = true := rfl
theorem set_set (n k : Nat) (x y : In) : ((p0 n).set k x).set k y = (p0 n).set k y := List.set_set ..

set_option maxHeartbeats 4000000 in
set_option maxRecDepth 100000 in
theorem progOdd_skip (n a t : Int) (w : World) (hE : Env w) (hs : n < 1 ∨ 60 < n ∨ a < 0 ∨ n ≤ a) :
    Calls Tryd.prog 3 #[.int .i64 n, .int .i64 a, .int .i64 t] w fun e w' => e = .returned (.bool true) ∧ Below w.heap.size w w' := by
  have HE := Lib.hid hE
  have HF := Lib.hid first_any
  clear hE
  have hs' : n < 1 ∨ (1 ≤ n ∧ (60 < n ∨ (n ≤ 60 ∧ (a < 0 ∨ (0 ≤ a ∧ n ≤ a))))) := by omega
  clear hs
  rcases hs' with h1 | ⟨h1, h2 | ⟨h2, h3 | ⟨h3, h4⟩⟩⟩
  all_goals
    go_enter Tryd.func3, Tryd.ntmps3
    go_upto_region 3 with (go_at_call 8; refine (HF.out w HE.out).mono ?_; rintro e w1 ⟨rfl, hb⟩; have H1 := Lib.hid hb; clear hb)
    go_wp2_with (go_at_call 8; refine (HF.out _ (HE.out.below H1.out)).mono ?_; rintro e w3 ⟨rfl, hb⟩; have H3 := Lib.hid hb; clear hb)
    go_ret
    exact ⟨rfl, H1.out.trans (H3.out.mono H1.out.size)⟩

theorem and3 (j : Nat) (h : j < 60) : bits BinOp.and IntKind.i64 (j : Int) 3 = ((j : Int) % 4) := by
  have hall : ((List.range 60).all fun j => bits BinOp.and IntKind.i64 (j : Int) 3 == ((j : Int) % 4)) = true := by kernel_rfl
  exact beq_iff_eq.1 (List.all_eq_true.1 hall j (List.mem_range.2 h))

theorem p0_small {n : Nat} : ∀ x ∈ p0 n, x.l.length ≤ 1000 := by
  intro x hx
  unfold p0 at hx
  obtain ⟨i, _, rfl⟩ := List.mem_map.1 hx
  simp [insO]
theorem set_small {n k : Nat} {x : In} (h : x.l.length ≤ 1000) : ∀ y ∈ (p0 n).set k x, y.l.length ≤ 1000 := by
  intro y hy
  rcases List.mem_or_eq_of_mem_set hy with hy | rfl
  · exact p0_small y hy
  · exact h
theorem chk_at (xs : List In) {n : Nat} (hn : xs.length = n) (g c : Nat) (w : World) (v : Int) (hv : chkP smallC xs = v) (hI : InsAt w w.heap.size (some ⟨g, 0, none⟩) xs) (hs : ∀ x ∈ xs, x.l.length ≤ 1000) (h60 : n ≤ 60) :
    Calls Tryd.prog 9 #[smallC.v, .slice (some ⟨g, 0, none⟩) n c] w fun e w' => e = .returned (.int .i64 v) ∧ Below w.heap.size w w' := by
  subst hn hv
  exact PCheck_any smallC xs _ c w hI hs (by omega)

set_option maxHeartbeats 4000000 in
set_option maxRecDepth 100000 in
theorem progOdd_main (n k : Nat) (t : Int) (w : World) (hE : Env w) (h1 : 1 ≤ n) (h2 : n ≤ 60) (h3 : k < n) (v1 : Int) (hv1 : chkP smallC ((p0 n).set k ⟨5, 3, t, 0, []⟩) = v1) :
    Calls Tryd.prog 3 #[.int .i64 n, .int .i64 k, .int .i64 t] w fun e w' => e = .returned (.bool true) ∧ Below w.heap.size w w' := by
  obtain ⟨i1, hi1, hy0, hy1, hy2⟩ := info_parts ins_info
  have HI1 := Lib.hid hi1
  have HY := Lib.hid (And.intro hy0 (And.intro hy1 hy2))
  clear hi1 hy0 hy1 hy2
  have HE := Lib.hid hE
  have HF := Lib.hid first_any
  clear hE
  have e1 : (1 : Int) ≤ (n : Int) := by omega
  have e2 : (n : Int) ≤ 60 := by omega
  have e3 : (k : Int) < (n : Int) := by omega
  have HV1 := Lib.hid hv1
  have HV2 := Lib.hid (chk_set_no n k _ h3 (may_read k n))
  have HV3 := Lib.hid (chk_set_no n k _ h3 (may_calc k n))
  have HV4 := Lib.hid (chk_set_no n k _ h3 (may_retry k n))
  have HV5 := Lib.hid (chk_set_yes n k _ h2 (may_abort t k n))
  clear hv1
  have d1 : decide ((n : Int) < 1) = false := decide_eq_false (by omega)
  have d2 : decide (60 < (n : Int)) = false := decide_eq_false (by omega)
  have d3 : decide ((k : Int) < 0) = false := decide_eq_false (by omega)
  have d4 : decide ((n : Int) ≤ (k : Int)) = false := decide_eq_false (by omega)
  have d5 : decide (n ≤ k) = false := decide_eq_false (by omega)
  go_enter Tryd.func3, Tryd.ntmps3
  go_wp2_with (go_at_call 8; refine (HF.out w HE.out).mono ?_; rintro e w1 ⟨rfl, hb⟩; have H1 := Lib.hid hb; clear hb)
  go_loopg [7, 8] n (fun gg s7 s8 wr => ∃ j : Nat, j ≤ n ∧ n - j ≤ gg ∧ s8 = .int .i64 j ∧ Aside (OI wr w.heap.size s7 (p0 j)) ∧ Aside (Below w.heap.size w wr))
  case atStart => exact ⟨0, by omega, by omega, rfl, OI.nil _ _, H1.out⟩
  case round =>
    obtain ⟨j, hj, hg, rfl, HO, HB⟩ := hrel
    by_cases hlt : j < n
    · have e4 : (j : Int) < (n : Int) := by omega
      have hb3 := and3 j (by omega)
      obtain ⟨ps, hps, hO, hpush⟩ := (HO.out.alloc (.cells #[.int .i64 3, .int .i64 ((j : Int) % 4), .int .i64 j, .int .i64 0, .slice none 0 0] 26)).pushed
      rw [p0_len] at hO
      have HO2 := Lib.hid hO
      have HPu := Lib.hid hpush
      have HR := Lib.hid (reads_new5 wr (.int .i64 3) (.int .i64 ((j : Int) % 4)) (.int .i64 j) (.int .i64 0) (.slice none 0 0) 26)
      have hsz := HB.out.size
      clear hO hpush
      go_wp2_with (at_builtin; (try simp only [hb3]); refine wpList_append_any _ rfl (.tmp 36) (.tmp 41) _ rfl w.heap.size 26 i1 _ 5 56 Tryd.underlying23 HI1.out HY.out.1 HY.out.2.1 HY.out.2.2 rfl (by omega) u7 j _ rfl HO2.out (wr.heap.size + 1) (some ⟨wr.heap.size, 0, none⟩) 1 1 (insCells (insO j) (none, 0)) rfl HR.out (by simp [insCells, Value.oneCell']) (by simp only [maxLen]; omega) (by omega) (by simp; omega) ?_; intro v3 w3 hown3 hg3 hat3; have Hw3 := Lib.hid (And.intro hown3 (And.intro hg3 hat3)); clear hown3 hg3 hat3)
      go_roundg (n - (j + 1))
      case measure => omega
      case rel =>
        obtain ⟨hown3, hg3, hat3⟩ := Hw3.out
        refine ⟨j + 1, by omega, by omega, by go_num, ?_, ?_⟩
        · show OI _ _ _ _
          rw [p0_succ]
          exact HPu.out w3 v3 (insO j) none 0 (by rw [p0_len]; exact hown3) hg3 (World.ownsRow_nil _ _ _ _)
        · show Below _ _ _
          exact (HB.out.alloc (by omega) _).grown hg3 (by simp; omega) (fun q hq => (HO2.out.lt q hq).1)
    · have hjn : j = n := by omega
      subst hjn
      obtain ⟨g, c, rfl, hBg, hgl⟩ := HO.out.form (by rw [p0_len]; omega)
      rw [p0_len] at HO ⊢
      have HC0 := Lib.hid (chk_p0 j h2)
      go_upto_region 12 with (first
        | (go_at_call 10; refine (small_any wr).mono ?_; rintro e w3 ⟨rfl, hb3⟩; have HB3 := Lib.hid hb3; clear hb3)
        | (go_at_call 9; refine (chk_at (p0 j) (p0_len j) g c w3 0 HC0.out (HO.out.insAt.next HB3.out) p0_small (by omega)).mono ?_; rintro e w4 ⟨rfl, hb4⟩; have HB4 := Lib.hid hb4; clear hb4))
      have hb4 : Below wr.heap.size wr w4 := HB3.out.trans (HB4.out.mono HB3.out.size)
      have HO4 := Lib.hid (HO.out.below hb4)
      have HB4' := Lib.hid (HB.out.trans (hb4.mono HB.out.size))
      clear hb4 HB3 HB4 HO HB
      obtain ⟨a0, a1, a2, a3, a4, q0, q1, q2, q3, q4⟩ := HO4.out.at_ (p0_len j) k (by omega)
      have hfz := HO4.out.fz (p0_len j) k
      go_upto_region 13 with (fail)
      refine OI.store HO4.out (p0_len j) k (by omega) ⟨5, 3, t, 0, []⟩ none 0 (World.ownsRow_nil _ _ _ _) ?_
      intro V1 hO hg
      have HO5 := Lib.hid hO
      have HB5 := Lib.hid (HB4'.out.grown hg HB4'.out.size (fun q hq => by injection hq with hq; omega))
      clear hO hg q0 q1 q2 q3 q4 hfz HO4 HB4'
      go_upto_region 14 with (first
        | (go_at_call 10; refine (small_any _).mono ?_; rintro e w5 ⟨rfl, hb⟩; have HS := Lib.hid hb; clear hb)
        | (go_at_call 9; refine (chk_at _ (by rw [List.length_set, p0_len]) g c w5 _ HV1.out (HO5.out.insAt.next HS.out) (set_small (by simp)) (by omega)).mono ?_; rintro e w6 ⟨rfl, hb⟩; have HT := Lib.hid hb; clear hb))
      have hb6 : Below V1.heap.size V1 w6 := HS.out.trans (HT.out.mono HS.out.size)
      have HO6 := Lib.hid (HO5.out.below hb6)
      have HB6 := Lib.hid (HB5.out.trans (hb6.mono HB5.out.size))
      clear hb6 HS HT HO5 HB5
      obtain ⟨a0, a1, a2, a3, a4, q0, q1, q2, q3, q4⟩ := HO6.out.at_ (by rw [List.length_set, p0_len]) k (by omega)
      have hfz := HO6.out.fz (by rw [List.length_set, p0_len]) k
      go_upto_region 15 with (fail)
      refine OI.store HO6.out (by rw [List.length_set, p0_len]) k (by omega) ⟨1, 4, 0, -1, []⟩ none 0 (World.ownsRow_nil _ _ _ _) ?_
      intro V2 hO hg
      rw [set_set] at hO
      have HO7 := Lib.hid hO
      have HB7 := Lib.hid (HB6.out.grown hg HB6.out.size (fun q hq => by injection hq with hq; omega))
      clear hO hg q0 q1 q2 q3 q4 hfz HO6 HB6
      go_upto_region 16 with (first
        | (go_at_call 10; refine (small_any _).mono ?_; rintro e w7 ⟨rfl, hb⟩; have HS := Lib.hid hb; clear hb)
        | (go_at_call 9; refine (chk_at _ (by rw [List.length_set, p0_len]) g c w7 _ HV2.out (HO7.out.insAt.next HS.out) (set_small (by simp)) (by omega)).mono ?_; rintro e w8 ⟨rfl, hb⟩; have HT := Lib.hid hb; clear hb))
      have hb8 : Below V2.heap.size V2 w8 := HS.out.trans (HT.out.mono HS.out.size)
      have HO8 := Lib.hid ((HO7.out.below hb8).alloc (.cells #[.int .i64 1] 3))
      have HB8 := Lib.hid (HB7.out.trans (hb8.mono HB7.out.size))
      clear hb8 HS HT HO7 HB7
      obtain ⟨a0, a1, a2, a3, a4, q0, q1, q2, q3, q4⟩ := HO8.out.at_ (by rw [List.length_set, p0_len]) k (by omega)
      have hfz := HO8.out.fz (by rw [List.length_set, p0_len]) k
      go_upto_region 17 with (fail)
      refine OI.store HO8.out (by rw [List.length_set, p0_len]) k (by omega) ⟨4, 0, 9, 0, [1]⟩ (some ⟨w8.heap.size, 0, none⟩) 1 (World.ownsRow_lit w8 #[.int .i64 1] 1 HB8.out.size (by simp only [maxLen]; omega) rfl) ?_
      intro V3 hO hg
      rw [set_set] at hO
      have HO9 := Lib.hid hO
      have HB9 := Lib.hid ((HB8.out.alloc HB8.out.size _).grown hg (by have := HB8.out.size; simp; omega) (fun q hq => by injection hq with hq; omega))
      clear hO hg q0 q1 q2 q3 q4 hfz HO8 HB8
      go_upto_region 18 with (first
        | (go_at_call 10; refine (small_any _).mono ?_; rintro e w9 ⟨rfl, hb⟩; have HS := Lib.hid hb; clear hb)
        | (go_at_call 9; refine (chk_at _ (by rw [List.length_set, p0_len]) g c w9 _ HV3.out (HO9.out.insAt.next HS.out) (set_small (by simp)) (by omega)).mono ?_; rintro e w10 ⟨rfl, hb⟩; have HT := Lib.hid hb; clear hb))
      have hb10 : Below V3.heap.size V3 w10 := HS.out.trans (HT.out.mono HS.out.size)
      have HO10 := Lib.hid ((HO9.out.below hb10).alloc (.cells #[.int .i64 1] 3))
      have HB10 := Lib.hid (HB9.out.trans (hb10.mono HB9.out.size))
      clear hb10 HS HT HO9 HB9
      obtain ⟨a0, a1, a2, a3, a4, q0, q1, q2, q3, q4⟩ := HO10.out.at_ (by rw [List.length_set, p0_len]) k (by omega)
      have hfz := HO10.out.fz (by rw [List.length_set, p0_len]) k
      go_upto_region 19 with (fail)
      refine OI.store HO10.out (by rw [List.length_set, p0_len]) k (by omega) ⟨6, 0, 0, 0, [1]⟩ (some ⟨w10.heap.size, 0, none⟩) 1 (World.ownsRow_lit w10 #[.int .i64 1] 1 HB10.out.size (by simp only [maxLen]; omega) rfl) ?_
      intro V4 hO hg
      rw [set_set] at hO
      have HO11 := Lib.hid hO
      have HB11 := Lib.hid ((HB10.out.alloc HB10.out.size _).grown hg (by have := HB10.out.size; simp; omega) (fun q hq => by injection hq with hq; omega))
      clear hO hg q0 q1 q2 q3 q4 hfz HO10 HB10
      go_upto_region 20 with (first
        | (go_at_call 10; refine (small_any _).mono ?_; rintro e w11 ⟨rfl, hb⟩; have HS := Lib.hid hb; clear hb)
        | (go_at_call 9; refine (chk_at _ (by rw [List.length_set, p0_len]) g c w11 _ HV4.out (HO11.out.insAt.next HS.out) (set_small (by simp)) (by omega)).mono ?_; rintro e w12 ⟨rfl, hb⟩; have HT := Lib.hid hb; clear hb))
      have hb12 : Below V4.heap.size V4 w12 := HS.out.trans (HT.out.mono HS.out.size)
      have HO12 := Lib.hid (HO11.out.below hb12)
      have HB12 := Lib.hid (HB11.out.trans (hb12.mono HB11.out.size))
      clear hb12 HS HT HO11 HB11
      obtain ⟨a0, a1, a2, a3, a4, q0, q1, q2, q3, q4⟩ := HO12.out.at_ (by rw [List.length_set, p0_len]) k (by omega)
      have hfz := HO12.out.fz (by rw [List.length_set, p0_len]) k
      go_upto_region 21 with (fail)
      refine OI.store HO12.out (by rw [List.length_set, p0_len]) k (by omega) ⟨7, -9, t, 77, []⟩ none 0 (World.ownsRow_nil _ _ _ _) ?_
      intro V5 hO hg
      rw [set_set] at hO
      have HO13 := Lib.hid hO
      have HB13 := Lib.hid (HB12.out.grown hg HB12.out.size (fun q hq => by injection hq with hq; omega))
      clear hO hg q0 q1 q2 q3 q4 hfz HO12 HB12
      have hcase : ((v1 == 0) = true ∧ (k : Int) < t ∧ t ≤ (j : Int)) ∨ ((v1 == 0) = false ∧ t ≤ (k : Int)) ∨ ((v1 == 0) = false ∧ (k : Int) < t ∧ (j : Int) < t ∧ decide (t ≤ (j : Int)) = false) := by
        by_cases hj : (k : Int) < t ∧ t ≤ (j : Int)
        · refine .inl ⟨?_, hj⟩
          rw [← HV1.out, chk_set_yes j k _ h2 (by rw [may_jump, decide_eq_true hj.1, decide_eq_true hj.2]; rfl)]
          rfl
        · have hno : (decide ((k : Int) < t) && decide (t ≤ (j : Int))) = false := by
            rw [Bool.and_eq_false_iff, decide_eq_false_iff_not, decide_eq_false_iff_not]
            omega
          have hv : (v1 == 0) = false := by
            rw [← HV1.out, chk_set_no j k _ h3 (by rw [may_jump]; exact hno)]
            rfl
          by_cases hk : (k : Int) < t
          · exact .inr (.inr ⟨hv, hk, by omega, decide_eq_false (by omega)⟩)
          · exact .inr (.inl ⟨hv, by omega⟩)
      rcases hcase with ⟨z0, z1, z2⟩ | ⟨z0, z1⟩ | ⟨z0, z1, z2, z3⟩
      all_goals
        go_wp2_with (first
          | (go_at_call 8; refine (HF.out V5 (HE.out.below HB13.out)).mono ?_; rintro e w13 ⟨rfl, hb⟩; have HQ := Lib.hid hb; clear hb)
          | (go_at_call 10; refine (small_any _).mono ?_; rintro e w14 ⟨rfl, hb⟩; have HS := Lib.hid (HQ.out.trans (hb.mono HQ.out.size)); clear hb)
          | (go_at_call 9; refine (chk_at _ (by rw [List.length_set, p0_len]) g c w14 _ HV5.out (HO13.out.insAt.next HS.out) (set_small (by simp)) (by omega)).mono ?_; rintro e w15 ⟨rfl, hb⟩; have HT := Lib.hid (HS.out.trans (hb.mono HS.out.size)); clear hb))
        go_ret
        exact ⟨rfl, HB13.out.trans (HT.out.mono HB13.out.size)⟩
end Go.Proofs.YthkffcnifhcjoaaDoor
