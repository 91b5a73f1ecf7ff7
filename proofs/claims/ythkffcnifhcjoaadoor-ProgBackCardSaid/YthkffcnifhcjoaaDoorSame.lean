/- prog.Same computes sameP of any two programs. -/
import Derived.Test.YthkffcnifhcjoaaDoorIns
set_option linter.unusedSimpArgs false
set_option linter.unusedVariables false
namespace Go.Proofs.YthkffcnifhcjoaaDoor
open Go.RowKit Go.Sort

def sameI (x y : In) : Bool := x.k == y.k && x.a == y.a && x.b == y.b && x.c == y.c && x.l == y.l

/-- slices.Equal over ints. -/
theorem EqInts_any (xs ys : List Int) (A B : Option Addr) (c d : Nat) (w : World) (hx : Reads w w.heap.size 1 A xs.length (xs.map (Value.int .i64))) (hy : Reads w w.heap.size 1 B ys.length (ys.map (Value.int .i64)))
    (hn : xs.length ≤ 100000) (hm : ys.length ≤ 100000) :
    Calls Tryd.prog 27 #[.slice A xs.length c, .slice B ys.length d] w fun e w' => e = .returned (.bool (xs == ys)) ∧ Below w.heap.size w w' := by
  by_cases hne : xs.length = ys.length
  · rcases Nat.eq_zero_or_pos xs.length with h0 | h0
    · have e1 : xs = [] := List.eq_nil_of_length_eq_zero h0
      have e2 : ys = [] := List.eq_nil_of_length_eq_zero (by omega)
      subst e1 e2
      exact (Tryd.slices_Equal_int_empty A B c 0 d w (by omega)).mono fun e w' ⟨he, hw⟩ => ⟨by rw [he]; rfl, by rw [hw]; exact Below.refl _ _⟩
    · obtain ⟨b1, o1, _, hA, _, _, _⟩ := hx.get_ h0
      obtain ⟨b2, o2, _, hB, _, _, _⟩ := hy.get_ (k := 0) (by omega)
      subst hA hB
      have h := Tryd.slices_Equal_int b1 o1 xs.length c b2 o2 ys.length d xs ys w (Nat.le_refl _) (Nat.le_refl _) (by omega) (by omega)
        (fun j hj => by
          obtain ⟨b', o', u', hA', _, hx', hc'⟩ := hx.get_ hj
          injection hA' with hA'
          injection hA' with hb' ho'
          subst hb' ho'
          rw [hc', ← hx', List.getElem?_map, List.getElem?_eq_getElem hj]
          simp [List.getD, List.getElem?_eq_getElem hj])
        (fun j hj => by
          obtain ⟨b', o', u', hA', _, hx', hc'⟩ := hy.get_ hj
          injection hA' with hA'
          injection hA' with hb' ho'
          subst hb' ho'
          rw [hc', ← hx', List.getElem?_map, List.getElem?_eq_getElem hj]
          simp [List.getD, List.getElem?_eq_getElem hj])
      rw [List.take_of_length_le (Nat.le_refl _), List.take_of_length_le (Nat.le_refl _)] at h
      exact h.mono fun e w' ⟨he, q, hw⟩ => ⟨he, by rw [hw]; exact below_drewN (Below.refl _ _) _⟩
  · exact (Tryd.slices_Equal_int_lens A B xs.length c ys.length d w hne).mono fun e w' ⟨he, hw⟩ => ⟨by
      rw [he]
      have : (xs == ys) = false := by rw [beq_eq_false_iff_ne]; intro e; rw [e] at hne; exact hne rfl
      rw [this], by rw [hw]; exact Below.refl _ _⟩

set_option maxHeartbeats 2000000 in
set_option maxRecDepth 100000 in
theorem sameI_any (x y : In) (A B : Option Addr) (c d : Nat) (w : World) (hx : Reads w w.heap.size 1 A x.l.length (x.l.map (Value.int .i64))) (hy : Reads w w.heap.size 1 B y.l.length (y.l.map (Value.int .i64)))
    (hn : x.l.length ≤ 100000) (hm : y.l.length ≤ 100000) :
    Calls Tryd.prog 26 #[x.v (.slice A x.l.length c), y.v (.slice B y.l.length d)] w fun e w' => e = .returned (.bool (sameI x y)) ∧ Below w.heap.size w w' := by
  have HEq := Lib.hid (fun W (hW : Below w.heap.size w W) => EqInts_any x.l y.l A B c d W ((hx.below hW).more hW.size) ((hy.below hW).more hW.size) hn hm)
  obtain ⟨k, a, b, ci, l⟩ := x
  obtain ⟨k', a', b', ci', l'⟩ := y
  unfold In.v sameI
  dsimp only at *
  clear hx hy
  by_cases h1 : k = k'
  · subst h1
    by_cases h2 : a = a'
    · subst h2
      by_cases h3 : b = b'
      · subst h3
        by_cases h4 : ci = ci'
        · subst h4
          go_enter Tryd.func26, Tryd.ntmps26
          go_upto_region 1 with (fail)
          refine boxed2 ?_
          intro W0 hB1 hB2 hB3 hB4
          have k1 := instr_at hB1
          have k2 := instr_at hB2
          have HB := Lib.hid hB3
          clear hB1 hB2 hB3
          go_wp2_with (go_at_call 27; refine (HEq.out _ HB.out).mono ?_; rintro e w2 ⟨rfl, hb2⟩; have HB2 := Lib.hid hb2; clear hb2)
          go_ret
          exact ⟨by simp, HB.out.trans (HB2.out.mono HB.out.size)⟩
        · have h4' : (ci == ci') = false := beq_eq_false_iff_ne.2 h4
          go_enter Tryd.func26, Tryd.ntmps26
          go_wp2
          go_ret
          exact ⟨by simp [h4'], below_two (Below.refl _ _)⟩
      · have h3' : (b == b') = false := beq_eq_false_iff_ne.2 h3
        go_enter Tryd.func26, Tryd.ntmps26
        go_wp2
        go_ret
        exact ⟨by simp [h3'], below_two (Below.refl _ _)⟩
    · have h2' : (a == a') = false := beq_eq_false_iff_ne.2 h2
      go_enter Tryd.func26, Tryd.ntmps26
      go_wp2
      go_ret
      exact ⟨by simp [h2'], below_two (Below.refl _ _)⟩
  · have h1' : (k == k') = false := beq_eq_false_iff_ne.2 h1
    go_enter Tryd.func26, Tryd.ntmps26
    go_wp2
    go_ret
    exact ⟨by simp [h1'], below_two (Below.refl _ _)⟩

def sameP (xs ys : List In) : Bool := decide (xs.length = ys.length) && (List.range xs.length).all fun i => sameI (xs.getD i ⟨0, 0, 0, 0, []⟩) (ys.getD i ⟨0, 0, 0, 0, []⟩)
theorem sameP_yes {xs ys : List In} (hl : xs.length = ys.length) (h : ∀ j, j < xs.length → ∀ x y, xs[j]? = some x → ys[j]? = some y → sameI x y = true) : sameP xs ys = true := by
  unfold sameP
  rw [decide_eq_true hl, Bool.true_and, List.all_eq_true]
  intro i hi
  have hi := List.mem_range.1 hi
  have hi2 : i < ys.length := by omega
  have := h i hi _ _ (List.getElem?_eq_getElem hi) (List.getElem?_eq_getElem hi2)
  simpa [List.getD, List.getElem?_eq_getElem hi, List.getElem?_eq_getElem hi2] using this
theorem sameP_no (xs ys : List In) (j : Nat) (x y : In) (hx : xs[j]? = some x) (hy : ys[j]? = some y) (h : sameI x y = false) : sameP xs ys = false := by
  unfold sameP
  rw [Bool.and_eq_false_iff]
  right
  rw [List.all_eq_false]
  exact ⟨j, List.mem_range.2 (List.getElem?_eq_some_iff.1 hx).1, by simp [List.getD, hx, hy, h]⟩
theorem sameP_len {xs ys : List In} (hl : xs.length ≠ ys.length) : sameP xs ys = false := by
  unfold sameP
  rw [decide_eq_false hl]; rfl

set_option maxHeartbeats 2000000 in
set_option maxRecDepth 100000 in
theorem EqualFunc_any (xs ys : List In) (A B : Option Addr) (c d : Nat) (w : World) (hx : InsAt w w.heap.size A xs) (hy : InsAt w w.heap.size B ys) (lx : ∀ x ∈ xs, x.l.length ≤ 100000) (ly : ∀ x ∈ ys, x.l.length ≤ 100000)
    (hn : xs.length ≤ 100000) (hm : ys.length ≤ 100000) :
    Calls Tryd.prog 25 #[.slice A xs.length c, .slice B ys.length d, .func (.func 26) #[] #[]] w fun e w' => e = .returned (.bool (sameP xs ys)) ∧ Below w.heap.size w w' := by
  have HC := Lib.hid (fun (x y : In) (A B : Option Addr) (c d : Nat) (w : World) h1 h2 h3 h4 => sameI_any x y A B c d w h1 h2 h3 h4)
  have HX := Lib.hid hx
  have HYY := Lib.hid hy
  have HY := Lib.hid (@sameP_yes xs ys)
  have HN := Lib.hid (sameP_no xs ys)
  have HLn := Lib.hid (@sameP_len xs ys)
  have LX := Lib.hid (fun (j : Nat) (x : In) (h : xs[j]? = some x) => lx x (List.mem_of_getElem? h))
  have LY := Lib.hid (fun (j : Nat) (x : In) (h : ys[j]? = some x) => ly x (List.mem_of_getElem? h))
  generalize sameP xs ys = res at HY HN HLn ⊢
  clear hx hy lx ly
  by_cases hl : xs.length = ys.length
  · have HL := Lib.hid hl
    have hlz : ((xs.length : Int) != (ys.length : Int)) = false := by rw [bne_eq_false_iff_eq]; omega
    have hlz2 : (xs.length != ys.length) = false := by rw [bne_eq_false_iff_eq]; omega
    clear hl
    go_enter Tryd.func25, Tryd.ntmps25
    go_wp2
    go_loopg [17] xs.length (fun gg s17 wr => ∃ k : Nat, k ≤ xs.length ∧ xs.length - k ≤ gg ∧ s17 = .int .i64 k ∧ Aside (Below w.heap.size w wr) ∧ Aside (∀ j, j < k → ∀ x y, xs[j]? = some x → ys[j]? = some y → sameI x y = true))
    case atStart => exact ⟨0, by omega, by omega, rfl, Below.refl _ _, fun j hj => absurd hj (Nat.not_lt_zero _)⟩
    case round =>
      obtain ⟨k, hk, hg, rfl, BW, AL⟩ := hrel
      have hsz := BW.out.size
      by_cases hlt : k < xs.length
      · have hltz : (k : Int) < (xs.length : Int) := by omega
        have hlty : k < ys.length := by have := HL.out; omega
        have hltyz : (k : Int) < (ys.length : Int) := by omega
        have hx : xs[k]? = some xs[k] := List.getElem?_eq_getElem hlt
        have hy : ys[k]? = some ys[k] := List.getElem?_eq_getElem hlty
        generalize xs[k] = x at hx
        generalize ys[k] = y at hy
        obtain ⟨b1, o1, A1, c1, hA, hb1, hr1, e0, e1, e2, e3, e4⟩ := (HX.out.next BW.out).get hx
        obtain ⟨b2, o2, A2, c2, hB, hb2, hr2, f0, f1, f2, f3, f4⟩ := (HYY.out.next BW.out).get hy
        subst hA hB
        have hb1w : b1 < wr.heap.size := hb1
        have hb2w : b2 < wr.heap.size := hb2
        have HXk := Lib.hid hx
        have HYk := Lib.hid hy
        have HCall := Lib.hid (fun W (hW : Below wr.heap.size wr W) => HC.out x y A1 A2 c1 c2 W ((hr1.below hW).more hW.size) ((hr2.below hW).more hW.size) (LX.out k x hx) (LY.out k y hy))
        clear hx hy hb1 hb2 hr1 hr2
        unfold In.v at HCall
        cases hm : sameI x y with
        | true =>
          rw [hm] at HCall
          have HM := Lib.hid hm
          clear hm
          go_wp2_with (go_at_call 26; refine (HCall.out _ (((Below.refl _ _).alloc (Nat.le_refl _) _).alloc (by simp) _)).mono ?_; rintro e w2 ⟨rfl, hb2⟩; have HB2 := Lib.hid (below_two hb2); clear hb2)
          go_roundg (xs.length - (k + 1))
          case measure => omega
          case rel =>
            refine ⟨k + 1, by omega, by omega, by go_num, (show Aside _ from ?_), (show Aside _ from ?_)⟩
            · exact BW.out.trans (HB2.out.mono hsz)
            · intro j hj u v hu hv
              by_cases e : j = k
              · subst e
                have e1 := HXk.out.symm.trans hu
                have e2 := HYk.out.symm.trans hv
                injection e1 with e1
                injection e2 with e2
                subst e1 e2
                exact HM.out
              · exact AL.out j (by omega) u v hu hv
        | false =>
          rw [hm] at HCall
          have hr := HN.out k x y HXk.out HYk.out hm
          subst hr
          clear hm
          go_wp2_with (go_at_call 26; refine (HCall.out _ (((Below.refl _ _).alloc (Nat.le_refl _) _).alloc (by simp) _)).mono ?_; rintro e w2 ⟨rfl, hb2⟩; have HB2 := Lib.hid (below_two hb2); clear hb2)
          go_ret
          exact ⟨rfl, BW.out.trans (HB2.out.mono hsz)⟩
      · have : k = xs.length := by omega
        subst this
        have hr := HY.out HL.out AL.out
        subst hr
        go_wp2
        go_ret
        exact ⟨rfl, BW.out⟩
  · have hr := HLn.out hl
    subst hr
    have hlz : ((xs.length : Int) != (ys.length : Int)) = true := by rw [bne_iff_ne]; omega
    have hlz2 : (xs.length != ys.length) = true := by rw [bne_iff_ne]; omega
    go_enter Tryd.func25, Tryd.ntmps25
    go_wp2
    go_ret
    exact ⟨rfl, Below.refl _ _⟩

set_option maxHeartbeats 1000000 in
theorem Same_any (xs ys : List In) (A B : Option Addr) (c d : Nat) (w : World) (hx : InsAt w w.heap.size A xs) (hy : InsAt w w.heap.size B ys) (lx : ∀ x ∈ xs, x.l.length ≤ 100000) (ly : ∀ x ∈ ys, x.l.length ≤ 100000)
    (hn : xs.length ≤ 100000) (hm : ys.length ≤ 100000) :
    Calls Tryd.prog 17 #[.slice A xs.length c, .slice B ys.length d] w fun e w' => e = .returned (.bool (sameP xs ys)) ∧ Below w.heap.size w w' := by
  have H := Lib.hid (EqualFunc_any xs ys A B c d w hx hy lx ly hn hm)
  clear hx hy lx ly
  go_enter Tryd.func17, Tryd.ntmps17
  go_wp2_with (go_at_call 25; refine H.out.mono ?_; rintro e w2 ⟨rfl, hb2⟩)
  go_ret
  exact ⟨rfl, hb2⟩
end Go.Proofs.YthkffcnifhcjoaaDoor
