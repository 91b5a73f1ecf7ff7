/- prog.Check computes chkP of any configuration and any program of at most 100000 instructions. -/
import Derived.Test.YthkffcnifhcjoaaDoorIns
set_option linter.unusedSimpArgs false
set_option linter.unusedVariables false
namespace Go.Proofs.YthkffcnifhcjoaaDoor
open Go.RowKit Go.Sort

def chkB (c : Cf) (xs : List In) : Bool := c.ok && decide (xs.length ≤ 60) && (List.range xs.length).all fun i => mayB c (xs.getD i ⟨0, 0, 0, 0, []⟩) i xs.length
/-- prog.Check. -/
def chkP (c : Cf) (xs : List In) : Int := if chkB c xs then 0 else 2

theorem chkP_yes (c : Cf) (xs : List In) (h0 : c.ok = true) (h1 : xs.length ≤ 60) (h : ∀ j, j < xs.length → ∀ x, xs[j]? = some x → mayB c x j xs.length = true) : chkP c xs = 0 := by
  unfold chkP chkB
  rw [h0, decide_eq_true h1]
  have : ((List.range xs.length).all fun i => mayB c (xs.getD i ⟨0, 0, 0, 0, []⟩) i xs.length) = true := by
    rw [List.all_eq_true]
    intro i hi
    have hi := List.mem_range.1 hi
    have := h i hi xs[i] (List.getElem?_eq_getElem hi)
    simpa [List.getD, List.getElem?_eq_getElem hi] using this
  rw [this]
  rfl
theorem chkP_no (c : Cf) (xs : List In) (j : Nat) (x : In) (hx : xs[j]? = some x) (h : mayB c x j xs.length = false) : chkP c xs = 2 := by
  unfold chkP chkB
  have hj := (List.getElem?_eq_some_iff.1 hx).1
  have : ((List.range xs.length).all fun i => mayB c (xs.getD i ⟨0, 0, 0, 0, []⟩) i xs.length) = false := by
    rw [List.all_eq_false]
    refine ⟨j, List.mem_range.2 hj, ?_⟩
    simp [List.getD, hx, h]
  rw [this]
  simp

set_option maxHeartbeats 2000000 in
set_option maxRecDepth 100000 in
theorem PCheck_any (c : Cf) (xs : List In) (A : Option Addr) (cap : Nat) (w : World) (hI : InsAt w w.heap.size A xs) (hl : ∀ x ∈ xs, x.l.length ≤ 1000) (hn : xs.length ≤ 100000) :
    Calls Tryd.prog 9 #[c.v, .slice A xs.length cap] w fun e w' => e = .returned (.int .i64 (chkP c xs)) ∧ Below w.heap.size w w' := by
  have HC := Lib.hid (fun w => Check_any c w)
  have HMay := Lib.hid (fun (j : Nat) (x : In) (A' : Option Addr) (c' : Nat) (W : World) (h : Reads W W.heap.size 1 A' x.l.length (x.l.map (Value.int .i64))) (hl : x.l.length ≤ 1000) => may_any c x A' c' j xs.length W h hl)
  have HY := Lib.hid (chkP_yes c xs)
  have HN := Lib.hid (chkP_no c xs)
  have h1 : c.chk = if c.ok then 0 else 1 := rfl
  have h2 : c.ok = false → chkP c xs = 2 := fun h => by unfold chkP chkB; rw [h]; rfl
  have h3 : ¬ xs.length ≤ 60 → chkP c xs = 2 := fun h => by unfold chkP chkB; rw [decide_eq_false h]; simp
  generalize chkP c xs = res at HY HN h2 h3 ⊢
  generalize c.chk = chk at h1 HC
  have HP := Lib.hid (fun (j : Nat) (x : In) (h : xs[j]? = some x) => hl x (List.mem_of_getElem? h))
  have HI := Lib.hid hI
  have H3 := Lib.hid h3
  clear hI hl h3
  cases hok : c.ok with
  | false =>
    rw [hok] at h1
    have h4 := h2 hok
    simp only [Bool.false_eq_true, if_false] at h1
    subst h1 h4
    clear h2 hok
    obtain ⟨c0, c1, c2, c3, c4, c5, c6, c7, c8, c9, c10, c11⟩ := c
    unfold Cf.v at *
    dsimp only at *
    go_enter Tryd.func9, Tryd.ntmps9
    go_wp2_with (go_at_call 20; refine (HC.out _).mono ?_; rintro e w1 ⟨rfl, hb⟩; have HB := Lib.hid hb; clear hb)
    go_ret
    exact ⟨rfl, below_one HB.out⟩
  | true =>
    rw [hok] at h1
    simp only [if_true] at h1
    subst h1
    have HOK := Lib.hid hok
    clear h2 hok
    obtain ⟨c0, c1, c2, c3, c4, c5, c6, c7, c8, c9, c10, c11⟩ := c
    unfold Cf.v at *
    dsimp only at *
    by_cases h60 : xs.length ≤ 60
    · have h60z : (xs.length : Int) ≤ 60 := by omega
      go_enter Tryd.func9, Tryd.ntmps9
      go_wp2_with (go_at_call 20; refine (HC.out _).mono ?_; rintro e w1 ⟨rfl, hb⟩; have HB := Lib.hid hb; clear hb)
      have hB1 := (Blk.new w 30 #[.int .i64 c0, .int .i64 c1, .int .i64 c2, .int .i64 c3, .int .i64 c4, .int .i64 c5, .int .i64 c6, .int .i64 c7, .int .i64 c8, .int .i64 c9, .int .i64 c10, .int .i64 c11]).below HB.out (by simp)
      have HB1 := Lib.hid hB1
      have HBw := Lib.hid (below_one HB.out)
      have hsz0 : w.heap.size < w1.heap.size := hB1.lt
      clear hB1 HB
      go_loopg [17] xs.length (fun gg s17 wr => ∃ k : Nat, k ≤ xs.length ∧ xs.length - k ≤ gg ∧ s17 = .int .i64 k ∧ Aside (Below w1.heap.size w1 wr) ∧ Aside (∀ j, j < k → ∀ x, xs[j]? = some x → mayB ⟨c0, c1, c2, c3, c4, c5, c6, c7, c8, c9, c10, c11⟩ x j xs.length = true))
      case atStart => exact ⟨0, by omega, by omega, rfl, Below.refl _ _, fun j hj => absurd hj (Nat.not_lt_zero _)⟩
      case round =>
        obtain ⟨k, hk, hg, rfl, BW, AL⟩ := hrel
        by_cases hlt : k < xs.length
        · have hltz : (k : Int) < (xs.length : Int) := by omega
          have hx : xs[k]? = some xs[k] := List.getElem?_eq_getElem hlt
          generalize xs[k] = x at hx
          have hIw := HI.out.next (HBw.out.trans (BW.out.mono (by omega)))
          obtain ⟨b, o, A', c', hA, hb, hrd, e0, e1, e2, e3, e4⟩ := hIw.get hx
          subst hA
          have hle := HP.out k x hx
          have hconf := conf_at (HB1.out.below BW.out HB1.out.lt)
          have hsz1 := BW.out.size
          have hbw : b < wr.heap.size := hb
          have hsz2 : w.heap.size < wr.heap.size := by omega
          have hsz3 : w.heap.size ≠ wr.heap.size := by omega
          have HX := Lib.hid hx
          have HRD := Lib.hid hrd
          have HCall := Lib.hid (fun W (hW : Below wr.heap.size wr W) => HMay.out k x A' c' W ((hrd.below hW).more hW.size) hle)
          clear hx hIw hb hrd
          unfold In.v at HCall
          cases hm : mayB ⟨c0, c1, c2, c3, c4, c5, c6, c7, c8, c9, c10, c11⟩ x k xs.length with
          | true =>
            rw [hm] at HCall
            have HM := Lib.hid hm
            clear hm
            go_wp2_with (go_at_call 21; refine (HCall.out _ ?_).mono ?_; (first | exact (Below.refl _ _).alloc (Nat.le_refl _) _ | skip); rintro e w2 ⟨rfl, hb2⟩; have HB2 := Lib.hid hb2; clear hb2)
            go_roundg (xs.length - (k + 1))
            case measure => omega
            case rel =>
              refine ⟨k + 1, by omega, by omega, by go_num, (show Aside _ from ?_), (show Aside _ from ?_)⟩
              · exact BW.out.trans ((below_one HB2.out).mono hsz1)
              · intro j hj y hy
                by_cases e : j = k
                · subst e
                  have := HX.out.symm.trans hy
                  injection this with this
                  subst this
                  exact HM.out
                · exact AL.out j (by omega) y hy
          | false =>
            rw [hm] at HCall
            have hr := HN.out k x HX.out hm
            subst hr
            clear hm
            go_wp2_with (go_at_call 21; refine (HCall.out _ ?_).mono ?_; (first | exact (Below.refl _ _).alloc (Nat.le_refl _) _ | skip); rintro e w2 ⟨rfl, hb2⟩; have HB2 := Lib.hid hb2; clear hb2)
            go_ret
            exact ⟨rfl, HBw.out.trans ((BW.out.trans ((below_one HB2.out).mono hsz1)).mono (by omega))⟩
        · have : k = xs.length := by omega
          subst this
          have hr := HY.out HOK.out h60 AL.out
          subst hr
          go_wp2
          go_ret
          exact ⟨rfl, HBw.out.trans (BW.out.mono (by omega))⟩
    · have hr := H3.out h60
      subst hr
      have h60z : (60 : Int) < (xs.length : Int) := by omega
      go_enter Tryd.func9, Tryd.ntmps9
      go_wp2_with (go_at_call 20; refine (HC.out _).mono ?_; rintro e w1 ⟨rfl, hb⟩; have HB := Lib.hid hb; clear hb)
      go_ret
      exact ⟨rfl, below_one HB.out⟩
end Go.Proofs.YthkffcnifhcjoaaDoor
